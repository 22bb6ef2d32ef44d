/- Contracts of forcing, of the program: all, imply, forced, forcingCode, ForcedSet. Written by gen24I.py. -/
import Derived.Test.YtomojninngdbeaaGreat24B
import Derived.Test.YtomojninngdbeaaGreatQU
import Derived.Test.YtomojninngdbeaaGreat06t
import Derived.Test.YtomojninngdbeaaGreatSch
import Derived.Test.YtomojninngdbeaaGreatM04
namespace Go.Proofs.YtomojninngdbeaaGreat
open Go.RowKit
set_option linter.unusedVariables false
set_option linter.unusedSimpArgs false
/-- forcing as truth in the order -/
def gt : Fm → Fm
  | .var s => .var s
  | .fls => .fls
  | .bin .and a b => .bin .and (gt a) (gt b)
  | .bin .or a b => .bin .or (gt a) (gt b)
  | .bin .imp a b => .un .box (.bin .imp (gt a) (gt b))
  | .un k a => .un k (gt a)
/-- the value of a formula -/
def fv (ns us : List Nat) (f : Fm) : Nat := tv ns us (gt f)
def sg (ns us : List Nat) (fs : List Fm) : List Nat := (fs.map (fv ns us)).reverse
theorem sg_cons (ns us : List Nat) (g : Fm) (fs : List Fm) : sg ns us (g :: fs) = sg ns us fs ++ [fv ns us g] := by simp [sg]
theorem sg_length (ns us : List Nat) (fs : List Fm) : (sg ns us fs).length = fs.length := by simp [sg]
theorem dc_plain (f : Fm) (h : f.plain = true) (j : Nat) : ∀ g ∈ dc f j, g.plain = true := by
  induction j with
  | zero => intro g hg; rw [dc, List.mem_singleton] at hg; rw [hg]; exact h
  | succ j ih =>
    intro g hg
    rw [dc] at hg
    cases hd : dc f j with
    | nil => rw [hd] at hg; cases hg
    | cons x rest =>
      rw [hd] at hg ih
      rcases List.mem_append.1 (show g ∈ kids x ++ rest from hg) with h1 | h1
      · have hx := ih x List.mem_cons_self
        cases x with
        | var s => cases h1
        | fls => cases h1
        | bin k a b =>
          rw [Fm.plain, Bool.and_eq_true] at hx
          simp only [kids, List.mem_cons, List.not_mem_nil, or_false] at h1
          rcases h1 with h1 | h1
          · rw [h1]; exact hx.1
          · rw [h1]; exact hx.2
        | un k a => cases hx
      · exact ih g (List.mem_cons_of_mem _ h1)
theorem impl_Pall (k : Nat) (v : Value) (A : Option Addr) (m c : Nat) (hv : v = .slice A m c) (w : World) (hk : k ≤ 8) :
    Calls Tryz.prog 90 #[.agg #[.int .i64 k, v]] w fun e w' => e = .returned (.int .i64 (2 ^ k - 1 : Nat)) ∧ Below w.heap.size w w' := by
  subst hv
  have e1 := wrap_two_pow (n := k) (by omega)
  have e2 := two_pow_le (n := k) (by omega)
  have e3 : (0 : Int) < 2 ^ k := Int.pow_pos (by decide)
  have HE : Hid (((2 ^ k - 1 : Nat) : Int) = 2 ^ k - 1) := Lib.hid (by rw [Int.ofNat_sub (Nat.pow_pos (by decide)), ← cast_two_pow]; rfl)
  have HB : Hid (Below w.heap.size w (w.alloc (.cells #[.int .i64 (k : Int), .slice A m c] 26))) := Lib.hid (below_alloc' _ _)
  go_enter Tryz.func90, Tryz.ntmps90
  go_wp2
  go_ret
  exact ⟨by rw [HE.out]; rfl, HB.out⟩
set_option maxRecDepth 100000 in
theorem impl_imply (ns : List Nat) (v : Value) (a b : Nat) (w : World) (h : Sl cI w v (li ns)) (hr : RelN ns) (ha : a < 256) (hb : b < 256) :
    Calls Tryz.prog 59 #[.agg #[.int .i64 (ns.length : Int), v], .int .i64 a, .int .i64 b] w fun e w' => e = .returned (.int .i64 (bx ns (andnot (2 ^ ns.length - 1) a ||| b) : Nat)) ∧ Below w.heap.size w w' := by
  obtain ⟨A0, c0, rfl⟩ := h.opn
  have h8 := hr.1
  have HL := Lib.hid (li_length ns)
  rw [HL.out] at h ⊢
  have HX := Lib.hid h
  obtain ⟨F, hF⟩ : ∃ F : Nat, F = 2 ^ ns.length - 1 := ⟨_, rfl⟩
  have hF256 : F < 256 := by have := two_pow_256 h8; have := full_lt ns.length; omega
  rw [← hF]
  have HA := Lib.hid (fun W => hF ▸ impl_Pall ns.length (.slice A0 ns.length c0) A0 ns.length c0 rfl W h8)
  have hq2 : andnot F a < 256 := andnot_lt (k := 8) hF256
  have e2 := Lib.hid (i64_andNot_nat F a (by omega) (by omega))
  have e3 := Lib.hid (i64_or_nat (andnot F a) b (by omega) (by omega))
  have h3 : andnot F a ||| b < 256 := Nat.or_lt_two_pow (n := 8) hq2 hb
  have HBx := Lib.hid (fun W (hW : Sl cI W (.slice A0 ns.length c0) (li ns)) => impl_box _ ns (andnot F a ||| b) W hW hr h3)
  generalize andnot F a ||| b = m at *
  have A := Lib.hid (Below.refl w.heap.size w)
  clear h hr hF h3
  go_enter Tryz.func59, Tryz.ntmps59
  go_upto_region 1 with fail
  have hb' := below_alloc' w (.cells #[.int .i64 ns.length, .slice A0 ns.length c0] 26)
  have T1 := Lib.hid (Bk.new w #[.int .i64 ns.length, .slice A0 ns.length c0] 26)
  replace HX := Lib.hid (HX.out.below hb')
  replace A := Lib.hid (bthen A.out hb')
  clear hb'
  generalize World.alloc w _ = w1 at *
  have t1s : w.heap.size < w1.heap.size := T1.out.1
  have t0 := T1.out.2 0
  have t1 := T1.out.2 1
  have hI := (Below.refl w1.heap.size w1).drew
  refine wp_region_sched (Below w1.heap.size w1) 9 [0, 1, 2, 4, 5, 6, 7] [0, 1, 2, 4, 6, 3, 5, 7, 8] (by kernel_rfl) (by kernel_rfl) hI ?_
  repeat
    apply wpSched_q rfl rfl
    case h =>
      intro w' hI K hK
      have t0' := (hI.cell (p := ⟨w.heap.size, 0, none⟩) t1s).trans t0
      have t1' := (hI.cell (p := ⟨w.heap.size, 1, none⟩) t1s).trans t1
      simp only [quietV, stillV]
      go_simp
      exact hK
    go_simp
  refine wpSched_r rfl rfl ?_ hI
  intro K hK _
  go_simp
  refine (HA.out _).mono ?_
  rintro e w2 ⟨rfl, hbb⟩
  replace hI := hI.trans (hbb.mono hI.size)
  refine hK _ _ hI ?_
  clear hK K hbb
  repeat
    apply wpSched_q rfl rfl
    case h =>
      intro w' hI K hK
      simp only [quietV, stillV]
      go_simp
      exact hK
    go_simp
  rw [e2.out, e3.out]
  refine wpSched_r rfl rfl ?_ hI
  intro K hK _
  go_simp
  refine (HBx.out _ (HX.out.below hI)).mono ?_
  rintro e _ ⟨rfl, rfl⟩
  refine hK _ _ hI ?_
  clear hK K
  refine wpSched_nil ?_
  try simp only [List.drop_succ_cons, List.drop_zero, List.drop_nil]
  have HB := Lib.hid hI
  clear hI t0 t1
  go_wp2
  go_ret
  exact ⟨rfl, A.out.trans (HB.out.mono A.out.size)⟩
theorem popOw {α : Type} {K : Cod α} {e : TypeId} {B : Nat} {w : World} {g c : Nat} {xs : List α} {x : α} {n : Nat} (h : Ow K e B w (.slice (some ⟨g, 0, none⟩) n c) (xs ++ [x])) : Ow K e B w (.slice (some ⟨g, 0, none⟩) xs.length c) xs := by
  obtain ⟨⟨A, c', hv, hc, hm⟩, h1, h2⟩ := h
  injection hv with hA hn hc'
  subst hA; subst hc'; subst hn
  rw [List.length_append, List.length_singleton] at hc h1 h2
  refine ⟨⟨_, c, rfl, by omega, hm⟩, flat_length xs, ?_⟩
  rcases h2 with ⟨h0, _⟩ | ⟨g', cap, cur, hv, hb, hg, hn, hcm, hsz, ht⟩
  · cases h0
  · injection hv with hA _ hcc
    injection hA with hA
    injection hA with hA _ _
    subst hA; subst hcc
    refine .inr ⟨g, c, cur, rfl, hb, hg, by omega, hcm, hsz, ?_⟩
    have h3 := congrArg (List.take (xs.length * K.size)) ht
    rw [List.take_take, flat_append, List.take_left' (flat_length xs)] at h3
    rw [Nat.min_eq_left (by rw [Nat.add_mul]; omega)] at h3
    exact h3
/-- the state of forced: the frame's block, the stack's cell, the stack -/
structure StP (w0 w : World) (S : Nat) (fr : Array Value) (zs : List Nat) : Prop where
  lt : w0.heap.size < S
  stack : ∃ sv, Blk w S 24 #[sv] ∧ Ow cI 2 (S + 1) w sv (li zs)
  frame : Blk w w0.heap.size 26 fr
  below : Below w0.heap.size w0 w
theorem impl_popP (w0 w : World) (S : Nat) (fr : Array Value) (zs : List Nat) (z : Nat) (h : StP w0 w S fr (zs ++ [z])) (hz : zs.length ≤ 1048576) :
    Calls Tryz.prog 58 #[.pointer (some ⟨S, 0, none⟩)] w fun e w' => e = .returned (.int .i64 (z : Nat)) ∧ StP w0 w' S fr zs := by
  obtain ⟨hS, ⟨sv, hk, ho⟩, hf, hb⟩ := h
  have hlen : (li (zs ++ [z])).length = zs.length + 1 := by rw [li_length]; simp
  obtain ⟨g, c, rfl, hg1, hg2, hfz, hcell⟩ := ho.form (by rw [hlen]; omega)
  have hz1 : w.cell? ⟨g, zs.length, none⟩ = some (.int .i64 (z : Nat)) := by
    have := (ho.at1 rfl (j := zs.length) (by rw [hlen]; omega) rfl).1
    rw [li_get, List.getD_eq_getElem?_getD] at this
    simpa using this
  have hpop : Ow cI 2 (S + 1) w (.slice (some ⟨g, 0, none⟩) (li zs).length c) (li zs) := by
    rw [li_append] at ho
    exact popOw ho
  have k1 := hk.cell
  have k2 := hk.frozen
  have k3 := hk.lt
  rw [li_length] at hpop
  rw [hlen] at k1
  have HE : Hid (StP w0 (w.setCell ⟨S, 0, none⟩ (.slice (some ⟨g, 0, none⟩) zs.length c)) S fr zs) := Lib.hid ⟨hS, ⟨_, hk.set_ 0 _, hpop.setBelow (by show S < _; omega) _⟩, hf.far (by show w0.heap.size ≠ S; omega) _, hb.setCell (by show w0.heap.size ≤ S; omega) _⟩
  have c1 : zs.length + 1 ≤ c := by
    obtain ⟨⟨A, c', hv, hc, hm⟩, _⟩ := ho
    injection hv with _ _ hcc
    subst hcc
    rw [hlen] at hc
    exact hc
  have c2 : c ≤ 9223372036854775807 := by
    obtain ⟨⟨A, c', hv, hc, hm⟩, _⟩ := ho
    injection hv with _ _ hcc
    subst hcc
    exact hm
  clear ho hpop hk hf hb hcell hfz
  have s0 : (#[Value.slice (some ⟨g, 0, none⟩) (zs.length + 1) c] : Array Value)[0]? = some (.slice (some ⟨g, 0, none⟩) (zs.length + 1) c) := rfl
  have k0 := k1 0
  rw [s0] at k0
  clear k1 s0 hlen
  generalize zs.length = n at *
  go_enter Tryz.func58, Tryz.ntmps58
  go_wp2
  go_ret
  exact ⟨rfl, HE.out⟩
theorem en_forced_1 : ∀ (args : Array Value) (w : World), (callFunc 58 args).run Tryz.prog w = .ok (.enter 58 args) w := enters Tryz.func58 (by kernel_rfl) (by kernel_rfl)
theorem StP.below_ {w0 w w' : World} {S : Nat} {fr : Array Value} {zs : List Nat} (h : StP w0 w S fr zs) (hb : Below w.heap.size w w') : StP w0 w' S fr zs := by
  obtain ⟨hS, ⟨sv, hk, ho⟩, hf, hB⟩ := h
  exact ⟨hS, ⟨sv, hk.below hb hk.lt, ho.below hb⟩, hf.below hb hf.lt, bthen hB hb⟩
theorem StP.drewN_ {w0 w : World} {S : Nat} {fr : Array Value} {zs : List Nat} (h : StP w0 w S fr zs) (q : Nat) : StP w0 (w.drewN q) S fr zs := by
  obtain ⟨hS, ⟨sv, hk, ho⟩, hf, hB⟩ := h
  exact ⟨hS, ⟨sv, hk.drewN q, ho.drewN q⟩, hf.drewN q, below_drewN hB q⟩
theorem StP.cellF {w0 w : World} {S : Nat} {fr : Array Value} {zs : List Nat} (h : StP w0 w S fr zs) (i : Nat) : w.cell? ⟨w0.heap.size, i, none⟩ = fr[i]? := h.frame.cell i
set_option maxHeartbeats 4000000 in
set_option maxRecDepth 100000 in
theorem impl_forced (ns us : List Nat) (f : Fm) (va vu v : Value) (w : World) (ha : Sl cI w va (li ns)) (hu : Sl cI w vu (li us)) (h : Sl cN w v (enc f)) (hr : RelN ns) (hu6 : us.length = 6) (hus : ∀ x ∈ us, x < 2 ^ ns.length) (hok : f.ok = true) (hpl : f.plain = true) (hl : (enc f).length ≤ 1048576) :
    Calls Tryz.prog 31 #[.agg #[.int .i64 (ns.length : Int), va], vu, v] w fun e w' => e = .returned (.int .i64 (fv ns us f : Nat)) ∧ Below w.heap.size w w' := by
  obtain ⟨A0, c0, rfl⟩ := ha.opn
  obtain ⟨A1, c1, rfl⟩ := hu.opn
  obtain ⟨A2, c2, rfl⟩ := h.opn
  have e6 : (li us).length = 6 := by rw [li_length, hu6]
  have en : (li ns).length = ns.length := li_length ns
  rw [e6] at hu ⊢
  rw [en] at ha ⊢
  have hpos := enc_pos f
  have h8 := hr.1
  have hb0 := below_alloc' w (.cells #[.int .i64 (ns.length : Int), .slice A0 ns.length c0] 26)
  have hk0 := Blk.new w 26 #[.int .i64 (ns.length : Int), .slice A0 ns.length c0]
  have HIm := Lib.hid (fun (a b : Nat) W (hW : Below w.heap.size w W) (ha' : a < 256) (hb' : b < 256) => impl_imply ns _ a b W (ha.below hW) hr ha' hb')
  go_enter Tryz.func31, Tryz.ntmps31
  go_upto_region 1 with fail
  have hB1 : Below w.heap.size w (w.alloc (.cells #[.int .i64 (ns.length : Int), .slice A0 ns.length c0] 26)) := hb0
  have hlt1 : w.heap.size < (w.alloc (.cells #[.int .i64 (ns.length : Int), .slice A0 ns.length c0] 26)).heap.size := hk0.lt
  generalize World.alloc w _ = w1 at *
  have hst : StP w (w1.alloc (.cells #[.slice none 0 0] 24)) w1.heap.size #[.int .i64 (ns.length : Int), .slice A0 ns.length c0] (sg ns us (dc f (enc f).length)) := by
    have hd := dc_drop f (enc f).length (Nat.le_refl _)
    rw [List.drop_length] at hd
    have hn : dc f (enc f).length = [] := by
      have := flatMap_enc_length (dc f (enc f).length)
      rw [← hd] at this
      exact List.eq_nil_of_length_eq_zero (by simpa using this)
    rw [hn]
    exact ⟨hlt1, ⟨_, Blk.new w1 24 #[.slice none 0 0], Ow.nil _ _⟩, hk0.alloc _, hB1.alloc hB1.size _⟩
  have HST := Lib.hid hst
  have Ha := Lib.hid ha
  have Hu := Lib.hid hu
  have Hh := Lib.hid h
  have HR := Lib.hid hr
  have HUS := Lib.hid (fun g => show fv ns us g < 2 ^ ns.length from tv_lt ns us hus (gt g))
  have HT0 : Hid (∀ (s : Nat), us.getD s 0 < 256) := Lib.hid fun s => Nat.lt_of_lt_of_le (getD_lt hus s) (two_pow_256 h8)
  have hL := hl
  have HOK := Lib.hid (enc_nodes f hok)
  have HPL := Lib.hid (dc_plain f hpl)
  clear ha hu h hr hst hB1 hb0 hk0 hus e6 en hok hpl hlt1
  go_wp2
  go_loopw [9] (fun i wr => ∃ j : Nat, j ≤ (enc f).length ∧ i = .int .i64 ((j : Int) - 1) ∧ StP w wr w1.heap.size #[.int .i64 (ns.length : Int), .slice A0 ns.length c0] (sg ns us (dc f j))) (fun i _ => (intOf i + 1).toNat)
  case atStart => exact ⟨(enc f).length, Nat.le_refl _, rfl, HST.out⟩
  case round =>
    obtain ⟨j, hj, rfl, hst⟩ := hrel
    have hk := en_forced_1
    cases j with
    | zero =>
      obtain ⟨hS, ⟨sv, hk, ho⟩, hf, hb⟩ := hst
      have hst1 : sg ns us (dc f 0) = [fv ns us f] := by simp [sg, dc]
      rw [hst1] at ho
      have hsl : (li [fv ns us f]).length = 1 := by rw [li_length]; rfl
      obtain ⟨g, c, rfl, hg1, hg2, hfz, hcell⟩ := ho.form (by rw [hsl]; omega)
      have hx : wr.cell? ⟨g, 0, none⟩ = some (.int .i64 (fv ns us f : Nat)) := (ho.at1 rfl (j := 0) (by rw [hsl]; omega) rfl).1
      have k1 := hk.cell
      rw [hsl] at k1
      have k2 := k1 0
      have k3 := hk.lt
      have HB := Lib.hid hb
      clear ho hk hf hb hcell hfz k1 hst1 hsl
      rw [show ((0 : Nat) : Int) - 1 = -1 from rfl]
      go_wp2
      go_ret
      exact ⟨rfl, HB.out⟩
    | succ j =>
      have hji : (((j + 1 : Nat) : Int) - 1) = (j : Int) := by omega
      rw [hji]
      clear hji
      have hlt : j < (enc f).length := by omega
      obtain ⟨b, o, rfl, hbl, hc0, hc1⟩ := (Hh.out.below hst.below).atN hlt
      obtain ⟨g, rest, hd1, hd2, hm⟩ := dc_at f j hlt
      have hrl : rest.length + 1 ≤ 1048576 := by
        have := dc_length f j (by omega)
        rw [hd1, List.length_cons] at this
        omega
      have hD : sg ns us (dc f j) = sg ns us rest ++ [fv ns us g] := by rw [hd1, sg_cons]
      have HD := Lib.hid hD
      rw [hd2] at hst
      have hnd := HOK.out _ (List.getElem_mem hlt)
      have hgp : g.plain = true := HPL.out j g (by rw [hd1]; exact List.mem_cons_self)
      clear hD hd1 hd2
      cases g with
      | var s =>
        simp only at hm
        rw [hm] at hc0 hc1 hnd
        simp [isNd, inR] at hnd
        simp only [kids, List.nil_append] at hst
        obtain ⟨b2, o2, rfl, hb2, hc2⟩ := (Hu.out.below hst.below).atI (k := s) (by rw [li_length]; omega)
        rw [li_get] at hc2
        have E : Hid (fv ns us (.var s) = us.getD s 0) := Lib.hid rfl
        rw [E.out] at HD
        have i1 : s < 6 := by omega
        have i2 : (s : Int) < 6 := by omega
        generalize us.getD s 0 = m at *
        clear hm hnd hgp
        obtain ⟨hS, ⟨sv, hk, ho⟩, hf, hb⟩ := hst
        obtain ⟨A9, c9, rfl⟩ := ho.opn
        have hll := li_length (sg ns us rest)
        rw [sg_length] at hll
        rw [hll] at ho hk
        have HLL := Lib.hid hll
        clear hll
        have k1 := hk.cell
        have k2 := hk.frozen
        have k3 := hk.lt
        have HO := Lib.hid ho
        have HK := Lib.hid hk
        have HFR := Lib.hid hf
        have HB := Lib.hid hb
        clear ho hk hf hb
        go_wp2_with (at_builtin; refine stopHere ?_)
        refine goHere ?_
        refine ap_one (K := cI) _ ty_int64 rfl _ _ rfl (B := w1.heap.size + 1) (xs := li (sg ns us rest)) rfl HO.out (m : Int) rfl rfl (by have := HLL.out; omega) (by omega) ?_
        intro v1 w5 ho1 hg1 hb1 hat1
        obtain ⟨A7, c7, rfl⟩ := ho1.opn
        rw [List.length_append, HLL.out, List.length_singleton] at ho1 ⊢
        have hk5 := (HK.out.alloc (.cells #[.int .i64 (m : Int)] 2)).grown hg1 (HO.out.apart (g := w1.heap.size) (.inl (by omega)))
        have hf5 := (HFR.out.alloc (.cells #[.int .i64 (m : Int)] 2)).grown hg1 (HO.out.apart (g := w.heap.size) (.inl (by omega)))
        have hb5 := HB.out.trans (hb1.mono (by omega))
        have k5 := hk5.cell
        have k6 := hk5.frozen
        have k7 := hk5.lt
        have HE : Hid (StP w (w5.setCell ⟨w1.heap.size, 0, none⟩ (.slice A7 (rest.length + 1) c7)) w1.heap.size #[.int .i64 (ns.length : Int), .slice A0 ns.length c0] (sg ns us rest ++ [m])) :=
          Lib.hid ⟨hS, ⟨_, hk5.set_ 0 _, by rw [li_append]; exact ho1.setBelow (by show w1.heap.size < _; omega) _⟩, hf5.far (by show w.heap.size ≠ w1.heap.size; omega) _, hb5.setCell (by show w.heap.size ≤ w1.heap.size; omega) _⟩
        clear ho1 hg1 hb1 hat1 hk5 hf5 hb5 k1 k2 HO HK HFR HB
        go_wp2
        go_roundw
        case rel => exact ⟨j, by omega, by go_num, by rw [HD.out]; exact HE.out⟩
        case measure => simp [intOf]
      | fls =>
        simp only at hm
        rw [hm] at hc0 hc1
        simp only [kids, List.nil_append] at hst
        have E : Hid (fv ns us .fls = 0) := Lib.hid rfl
        rw [E.out] at HD
        clear hm hnd hgp
        obtain ⟨hS, ⟨sv, hk, ho⟩, hf, hb⟩ := hst
        obtain ⟨A9, c9, rfl⟩ := ho.opn
        have hll := li_length (sg ns us rest)
        rw [sg_length] at hll
        rw [hll] at ho hk
        have HLL := Lib.hid hll
        clear hll
        have k1 := hk.cell
        have k2 := hk.frozen
        have k3 := hk.lt
        have HO := Lib.hid ho
        have HK := Lib.hid hk
        have HFR := Lib.hid hf
        have HB := Lib.hid hb
        clear ho hk hf hb
        go_wp2_with (at_builtin; refine stopHere ?_)
        refine goHere ?_
        refine ap_one (K := cI) _ ty_int64 rfl _ _ rfl (B := w1.heap.size + 1) (xs := li (sg ns us rest)) rfl HO.out (0 : Int) rfl rfl (by have := HLL.out; omega) (by omega) ?_
        intro v1 w5 ho1 hg1 hb1 hat1
        obtain ⟨A7, c7, rfl⟩ := ho1.opn
        rw [List.length_append, HLL.out, List.length_singleton] at ho1 ⊢
        have hk5 := (HK.out.alloc (.cells #[.int .i64 (0 : Int)] 2)).grown hg1 (HO.out.apart (g := w1.heap.size) (.inl (by omega)))
        have hf5 := (HFR.out.alloc (.cells #[.int .i64 (0 : Int)] 2)).grown hg1 (HO.out.apart (g := w.heap.size) (.inl (by omega)))
        have hb5 := HB.out.trans (hb1.mono (by omega))
        have k5 := hk5.cell
        have k6 := hk5.frozen
        have k7 := hk5.lt
        have HE : Hid (StP w (w5.setCell ⟨w1.heap.size, 0, none⟩ (.slice A7 (rest.length + 1) c7)) w1.heap.size #[.int .i64 (ns.length : Int), .slice A0 ns.length c0] (sg ns us rest ++ [0])) :=
          Lib.hid ⟨hS, ⟨_, hk5.set_ 0 _, by rw [li_append]; exact ho1.setBelow (by show w1.heap.size < _; omega) _⟩, hf5.far (by show w.heap.size ≠ w1.heap.size; omega) _, hb5.setCell (by show w.heap.size ≤ w1.heap.size; omega) _⟩
        clear ho1 hg1 hb1 hat1 hk5 hf5 hb5 k1 k2 HO HK HFR HB
        go_wp2
        go_roundw
        case rel => exact ⟨j, by omega, by go_num, by rw [HD.out]; exact HE.out⟩
        case measure => simp [intOf]
      | un k a => cases hgp
      | bin k a d =>
        simp only at hm
        rw [hm] at hc0 hc1
        simp only [kids, List.cons_append, List.nil_append] at hst
        rw [sg_cons, sg_cons] at hst
        have ha := Nat.lt_of_lt_of_le (HUS.out a) (two_pow_256 h8)
        have hd := Nat.lt_of_lt_of_le (HUS.out d) (two_pow_256 h8)
        have HS := Lib.hid hst
        have dS : w.heap.size < w1.heap.size := hst.lt
        clear hm hnd hst hgp
        cases k with
        | and =>
          simp only [BK.i] at hc0
          have E : Hid (fv ns us (.bin .and a d) = fv ns us a &&& fv ns us d) := Lib.hid rfl
          rw [E.out] at HD
          have e2 := i64_and_nat (fv ns us a) (fv ns us d) (by omega) (by omega)
          generalize fv ns us a = q at *
          generalize fv ns us d = p at *
          go_wp2_with fail
          refine (impl_popP w _ w1.heap.size _ (sg ns us rest ++ [p]) q HS.out (by rw [List.length_append, sg_length]; simp; omega)).mono ?_
          rintro e w2 ⟨rfl, hst2⟩
          have HS2 := Lib.hid hst2
          clear hst2
          go_wp2_with fail
          refine (impl_popP w _ w1.heap.size _ (sg ns us rest) p HS2.out (by rw [sg_length]; omega)).mono ?_
          rintro e w3 ⟨rfl, hst3⟩
          obtain ⟨hS, ⟨sv, hk, ho⟩, hf, hb⟩ := hst3
          obtain ⟨A9, c9, rfl⟩ := ho.opn
          have hll := li_length (sg ns us rest)
          rw [sg_length] at hll
          rw [hll] at ho hk
          have HLL := Lib.hid hll
          clear hll
          have k1 := hk.cell
          have k2 := hk.frozen
          have k3 := hk.lt
          have HO := Lib.hid ho
          have HK := Lib.hid hk
          have HFR := Lib.hid hf
          have HB := Lib.hid hb
          clear ho hk hf hb
          go_wp2_with (at_builtin; refine stopHere ?_)
          refine goHere ?_
          refine ap_one (K := cI) _ ty_int64 rfl _ _ rfl (B := w1.heap.size + 1) (xs := li (sg ns us rest)) rfl HO.out ((q &&& p : Nat) : Int) rfl rfl (by have := HLL.out; omega) (by omega) ?_
          intro v1 w5 ho1 hg1 hb1 hat1
          obtain ⟨A7, c7, rfl⟩ := ho1.opn
          rw [List.length_append, HLL.out, List.length_singleton] at ho1 ⊢
          have hk5 := (HK.out.alloc (.cells #[.int .i64 ((q &&& p : Nat) : Int)] 2)).grown hg1 (HO.out.apart (g := w1.heap.size) (.inl (by omega)))
          have hf5 := (HFR.out.alloc (.cells #[.int .i64 ((q &&& p : Nat) : Int)] 2)).grown hg1 (HO.out.apart (g := w.heap.size) (.inl (by omega)))
          have hb5 := HB.out.trans (hb1.mono (by omega))
          have k5 := hk5.cell
          have k6 := hk5.frozen
          have k7 := hk5.lt
          have HE : Hid (StP w (w5.setCell ⟨w1.heap.size, 0, none⟩ (.slice A7 (rest.length + 1) c7)) w1.heap.size #[.int .i64 (ns.length : Int), .slice A0 ns.length c0] (sg ns us rest ++ [q &&& p])) :=
            Lib.hid ⟨hS, ⟨_, hk5.set_ 0 _, by rw [li_append]; exact ho1.setBelow (by show w1.heap.size < _; omega) _⟩, hf5.far (by show w.heap.size ≠ w1.heap.size; omega) _, hb5.setCell (by show w.heap.size ≤ w1.heap.size; omega) _⟩
          clear ho1 hg1 hb1 hat1 hk5 hf5 hb5 k1 k2 HO HK HFR HB
          go_wp2
          go_roundw
          case rel => exact ⟨j, by omega, by go_num, by rw [HD.out]; exact HE.out⟩
          case measure => simp [intOf]
        | or =>
          simp only [BK.i] at hc0
          have E : Hid (fv ns us (.bin .or a d) = fv ns us a ||| fv ns us d) := Lib.hid rfl
          rw [E.out] at HD
          have e2 := i64_or_nat (fv ns us a) (fv ns us d) (by omega) (by omega)
          generalize fv ns us a = q at *
          generalize fv ns us d = p at *
          go_wp2_with fail
          refine (impl_popP w _ w1.heap.size _ (sg ns us rest ++ [p]) q HS.out (by rw [List.length_append, sg_length]; simp; omega)).mono ?_
          rintro e w2 ⟨rfl, hst2⟩
          have HS2 := Lib.hid hst2
          clear hst2
          go_wp2_with fail
          refine (impl_popP w _ w1.heap.size _ (sg ns us rest) p HS2.out (by rw [sg_length]; omega)).mono ?_
          rintro e w3 ⟨rfl, hst3⟩
          obtain ⟨hS, ⟨sv, hk, ho⟩, hf, hb⟩ := hst3
          obtain ⟨A9, c9, rfl⟩ := ho.opn
          have hll := li_length (sg ns us rest)
          rw [sg_length] at hll
          rw [hll] at ho hk
          have HLL := Lib.hid hll
          clear hll
          have k1 := hk.cell
          have k2 := hk.frozen
          have k3 := hk.lt
          have HO := Lib.hid ho
          have HK := Lib.hid hk
          have HFR := Lib.hid hf
          have HB := Lib.hid hb
          clear ho hk hf hb
          go_wp2_with (at_builtin; refine stopHere ?_)
          refine goHere ?_
          refine ap_one (K := cI) _ ty_int64 rfl _ _ rfl (B := w1.heap.size + 1) (xs := li (sg ns us rest)) rfl HO.out ((q ||| p : Nat) : Int) rfl rfl (by have := HLL.out; omega) (by omega) ?_
          intro v1 w5 ho1 hg1 hb1 hat1
          obtain ⟨A7, c7, rfl⟩ := ho1.opn
          rw [List.length_append, HLL.out, List.length_singleton] at ho1 ⊢
          have hk5 := (HK.out.alloc (.cells #[.int .i64 ((q ||| p : Nat) : Int)] 2)).grown hg1 (HO.out.apart (g := w1.heap.size) (.inl (by omega)))
          have hf5 := (HFR.out.alloc (.cells #[.int .i64 ((q ||| p : Nat) : Int)] 2)).grown hg1 (HO.out.apart (g := w.heap.size) (.inl (by omega)))
          have hb5 := HB.out.trans (hb1.mono (by omega))
          have k5 := hk5.cell
          have k6 := hk5.frozen
          have k7 := hk5.lt
          have HE : Hid (StP w (w5.setCell ⟨w1.heap.size, 0, none⟩ (.slice A7 (rest.length + 1) c7)) w1.heap.size #[.int .i64 (ns.length : Int), .slice A0 ns.length c0] (sg ns us rest ++ [q ||| p])) :=
            Lib.hid ⟨hS, ⟨_, hk5.set_ 0 _, by rw [li_append]; exact ho1.setBelow (by show w1.heap.size < _; omega) _⟩, hf5.far (by show w.heap.size ≠ w1.heap.size; omega) _, hb5.setCell (by show w.heap.size ≤ w1.heap.size; omega) _⟩
          clear ho1 hg1 hb1 hat1 hk5 hf5 hb5 k1 k2 HO HK HFR HB
          go_wp2
          go_roundw
          case rel => exact ⟨j, by omega, by go_num, by rw [HD.out]; exact HE.out⟩
          case measure => simp [intOf]
        | imp =>
          simp only [BK.i] at hc0
          have E : Hid (fv ns us (.bin .imp a d) = bx ns (andnot (2 ^ ns.length - 1) (fv ns us a) ||| fv ns us d)) := Lib.hid rfl
          rw [E.out] at HD
          have HI := Lib.hid (fun W hW => HIm.out (fv ns us a) (fv ns us d) W hW ha hd)
          obtain ⟨r, hr9⟩ : ∃ r, bx ns (andnot (2 ^ ns.length - 1) (fv ns us a) ||| fv ns us d) = r := ⟨_, rfl⟩
          rw [hr9] at HD HI
          clear hr9 E
          generalize fv ns us a = q at *
          generalize fv ns us d = p at *
          go_wp2_with fail
          refine (impl_popP w _ w1.heap.size _ (sg ns us rest ++ [p]) q HS.out (by rw [List.length_append, sg_length]; simp; omega)).mono ?_
          rintro e w2 ⟨rfl, hst2⟩
          have HS2 := Lib.hid hst2
          clear hst2
          go_upto_region 16 with fail
          have hI : (fun X : World => X.cell? ⟨w.heap.size, 0, none⟩ = some (.int .i64 (ns.length : Int)) ∧ X.cell? ⟨w.heap.size, 1, none⟩ = some (.slice A0 ns.length c0)) (World.drew w2) := ⟨HS2.out.cellF 0, HS2.out.cellF 1⟩
          refine wp_region_sched (fun X : World => X.cell? ⟨w.heap.size, 0, none⟩ = some (.int .i64 (ns.length : Int)) ∧ X.cell? ⟨w.heap.size, 1, none⟩ = some (.slice A0 ns.length c0)) 5 [0, 1, 2] [0, 1, 2, 3, 4] (by kernel_rfl) (by kernel_rfl) hI ?_
          repeat
            apply wpSched_q rfl rfl
            case h =>
              intro w' hI K hK
              have cc0 : w'.cell? ⟨w.heap.size, 0, none⟩ = some (.int .i64 (ns.length : Int)) := hI.1
              have cc1 : w'.cell? ⟨w.heap.size, 1, none⟩ = some (.slice A0 ns.length c0) := hI.2
              simp only [quietV, stillV]
              go_simp
              exact hK
            go_simp
          refine wpSched_r rfl rfl ?_ hI
          intro K hK _
          go_simp
          refine (impl_popP w _ w1.heap.size _ (sg ns us rest) p (HS2.out.drewN_ 1) (by rw [sg_length]; omega)).mono ?_
          rintro e w3 ⟨rfl, hst3⟩
          have HS3 := Lib.hid hst3
          clear hI hst3
          have hI : (fun X : World => X.cell? ⟨w.heap.size, 0, none⟩ = some (.int .i64 (ns.length : Int)) ∧ X.cell? ⟨w.heap.size, 1, none⟩ = some (.slice A0 ns.length c0)) w3 := ⟨HS3.out.cellF 0, HS3.out.cellF 1⟩
          refine hK _ _ hI ?_
          clear hK K
          refine wpSched_r rfl rfl ?_ hI
          intro K hK _
          go_simp
          refine (HI.out w3 HS3.out.below).mono ?_
          rintro e w4 ⟨rfl, hb4⟩
          have hst3 := HS3.out.below_ hb4
          clear hI
          have hI : (fun X : World => X.cell? ⟨w.heap.size, 0, none⟩ = some (.int .i64 (ns.length : Int)) ∧ X.cell? ⟨w.heap.size, 1, none⟩ = some (.slice A0 ns.length c0)) w4 := ⟨hst3.cellF 0, hst3.cellF 1⟩
          refine hK _ _ hI ?_
          clear hK K hb4 hI
          refine wpSched_nil ?_
          try simp only [List.drop_succ_cons, List.drop_zero, List.drop_nil]
          obtain ⟨hS, ⟨sv, hk, ho⟩, hf, hb⟩ := hst3
          obtain ⟨A9, c9, rfl⟩ := ho.opn
          have hll := li_length (sg ns us rest)
          rw [sg_length] at hll
          rw [hll] at ho hk
          have HLL := Lib.hid hll
          clear hll
          have k1 := hk.cell
          have k2 := hk.frozen
          have k3 := hk.lt
          have HO := Lib.hid ho
          have HK := Lib.hid hk
          have HFR := Lib.hid hf
          have HB := Lib.hid hb
          clear ho hk hf hb
          go_wp2_with (at_builtin; refine stopHere ?_)
          refine goHere ?_
          refine ap_one (K := cI) _ ty_int64 rfl _ _ rfl (B := w1.heap.size + 1) (xs := li (sg ns us rest)) rfl HO.out ((r : Nat) : Int) rfl rfl (by have := HLL.out; omega) (by omega) ?_
          intro v1 w5 ho1 hg1 hb1 hat1
          obtain ⟨A7, c7, rfl⟩ := ho1.opn
          rw [List.length_append, HLL.out, List.length_singleton] at ho1 ⊢
          have hk5 := (HK.out.alloc (.cells #[.int .i64 ((r : Nat) : Int)] 2)).grown hg1 (HO.out.apart (g := w1.heap.size) (.inl (by omega)))
          have hf5 := (HFR.out.alloc (.cells #[.int .i64 ((r : Nat) : Int)] 2)).grown hg1 (HO.out.apart (g := w.heap.size) (.inl (by omega)))
          have hb5 := HB.out.trans (hb1.mono (by omega))
          have k5 := hk5.cell
          have k6 := hk5.frozen
          have k7 := hk5.lt
          have HE : Hid (StP w (w5.setCell ⟨w1.heap.size, 0, none⟩ (.slice A7 (rest.length + 1) c7)) w1.heap.size #[.int .i64 (ns.length : Int), .slice A0 ns.length c0] (sg ns us rest ++ [r])) :=
            Lib.hid ⟨hS, ⟨_, hk5.set_ 0 _, by rw [li_append]; exact ho1.setBelow (by show w1.heap.size < _; omega) _⟩, hf5.far (by show w.heap.size ≠ w1.heap.size; omega) _, hb5.setCell (by show w.heap.size ≤ w1.heap.size; omega) _⟩
          clear ho1 hg1 hb1 hat1 hk5 hf5 hb5 k1 k2 HO HK HFR HB
          go_wp2
          go_roundw
          case rel => exact ⟨j, by omega, by go_num, by rw [HD.out]; exact HE.out⟩
          case measure => simp [intOf]
end Go.Proofs.YtomojninngdbeaaGreat
