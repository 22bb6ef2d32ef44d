/- Joined of several texts: PT, M2U, 2V, 2X, 12A0. -/
import Derived.Test.YtaigiopoogbbbaaGreatY09
import Derived.Test.YtaigiopoogbbbaaGreatY11
import Derived.Test.YtaigiopoogbbbaaGreatY17
import Derived.Sort.Walk0
import Derived.Shelf.SlicesE.Compact
import Derived.Shelf.SortM.Plain
import Derived.Shelf.SortM.SortNone
import Derived.Sort.OwnSorted
import Derived.Lib.AppendZeros
namespace Go.Proofs.YtaigiopoogbbbaaGreat
open Go.RowKit
set_option linter.unusedVariables false
set_option linter.unusedSimpArgs false
/- Plain law: the parts of a formula. No program in sight. Written by gen12E.py out of texts of chapter 14. -/
/-- the part of a formula at an index -/
def pt (f : Fm) (i : Nat) : Fm := (dc f i).headD .fls
theorem pt_at (f : Fm) (i : Nat) (h : i < (enc f).length) : ∃ rest, dc f i = pt f i :: rest ∧ dc f (i + 1) = kids (pt f i) ++ rest := by
  obtain ⟨g, rest, h1, h2, -⟩ := dc_at f i h
  have e : pt f i = g := by unfold pt; rw [h1]; rfl
  exact ⟨rest, by rw [e]; exact h1, by rw [e]; exact h2⟩
theorem pt_drop (f : Fm) (i : Nat) (h : i < (enc f).length) : ∃ rest, (enc f).drop i = enc (pt f i) ++ rest := by
  obtain ⟨rest, h1, -⟩ := pt_at f i h
  exact ⟨rest.flatMap enc, by rw [dc_drop f i (by omega), h1, List.flatMap_cons]⟩
theorem pt_next (f : Fm) (i : Nat) (h : i < (enc f).length) {k : UK} {a : Fm} (e : pt f i = .un k a) : i + 1 < (enc f).length ∧ pt f (i + 1) = a := by
  obtain ⟨rest, h1, h2⟩ := pt_at f i h
  rw [e] at h2
  have h3 : dc f (i + 1) = a :: rest := h2
  refine ⟨?_, by unfold pt; rw [h3]; rfl⟩
  have h4 := dc_drop f (i + 1) (by omega)
  rw [h3, List.flatMap_cons] at h4
  have h5 := congrArg List.length h4
  rw [List.length_drop, List.length_append] at h5
  have := enc_pos a
  omega
/-- a part of a formula -/
def Part (f g : Fm) : Prop := ∃ i, i < (enc f).length ∧ pt f i = g
theorem dc_more {f g : Fm} {i : Nat} {rest : List Fm} (hi : i ≤ (enc f).length) (h : dc f i = g :: rest) : i + (enc g).length ≤ (enc f).length := by
  have h4 := dc_drop f i hi
  rw [h, List.flatMap_cons] at h4
  have h5 := congrArg List.length h4
  rw [List.length_drop, List.length_append] at h5
  omega
theorem dc_next {f g : Fm} {i : Nat} {rest : List Fm} (hi : i ≤ (enc f).length) (h : dc f i = g :: rest) : dc f (i + 1) = kids g ++ rest := by
  have h1 := dc_more hi h
  have h2 := enc_pos g
  obtain ⟨g', rest', e1, e2, -⟩ := dc_at f i (by omega)
  rw [h] at e1
  injection e1 with e1 e3
  rw [e2, ← e1, ← e3]
theorem dc_skip {f : Fm} : ∀ {g : Fm} {i : Nat} {rest : List Fm}, i ≤ (enc f).length → dc f i = g :: rest → dc f (i + (enc g).length) = rest := by
  intro g
  induction g with
  | var s => intro i rest hi h; exact dc_next hi h
  | fls => intro i rest hi h; exact dc_next hi h
  | un k a ih =>
    intro i rest hi h
    have h1 := dc_more hi h
    have h2 : dc f (i + 1) = a :: rest := dc_next hi h
    have e : (enc (.un k a)).length = 1 + (enc a).length := by simp [enc]; omega
    rw [e] at h1 ⊢
    rw [← Nat.add_assoc]
    exact ih (by omega) h2
  | bin k a b iha ihb =>
    intro i rest hi h
    have h1 := dc_more hi h
    have h2 : dc f (i + 1) = a :: b :: rest := dc_next hi h
    have e : (enc (.bin k a b)).length = 1 + (enc a).length + (enc b).length := by simp [enc]; omega
    rw [e] at h1 ⊢
    have h3 := iha (by omega) h2
    have := ihb (by omega) h3
    rw [show i + (1 + (enc a).length + (enc b).length) = i + 1 + (enc a).length + (enc b).length by omega]
    exact this
theorem Part.of {f g : Fm} {i : Nat} {rest : List Fm} (hi : i ≤ (enc f).length) (h : dc f i = g :: rest) : Part f g := by
  have h1 := dc_more hi h
  have h2 := enc_pos g
  exact ⟨i, by omega, by unfold pt; rw [h]; rfl⟩
theorem Part.at {f g : Fm} (h : Part f g) : ∃ i rest, i < (enc f).length ∧ dc f i = g :: rest := by
  obtain ⟨i, hi, e⟩ := h
  obtain ⟨rest, h1, -⟩ := pt_at f i hi
  exact ⟨i, rest, hi, by rw [← e]; exact h1⟩
theorem Part.un {f a : Fm} {k : UK} (h : Part f (.un k a)) : Part f a := by
  obtain ⟨i, rest, hi, h1⟩ := h.at
  have h2 : dc f (i + 1) = a :: rest := dc_next (by omega) h1
  exact Part.of (by omega) h2
theorem Part.bin {f a b : Fm} {k : BK} (h : Part f (.bin k a b)) : Part f a ∧ Part f b := by
  obtain ⟨i, rest, hi, h1⟩ := h.at
  have h2 : dc f (i + 1) = a :: b :: rest := dc_next (by omega) h1
  have h3 := dc_skip (by omega) h2
  have h4 := dc_more (by omega) h2
  exact ⟨Part.of (by omega) h2, Part.of (by omega) h3⟩
theorem Part.self (f : Fm) : Part f f := Part.of (Nat.zero_le _) rfl
theorem part_ok {f g : Fm} (hok : f.ok = true) (h : Part f g) : g.ok = true := by
  obtain ⟨i, rest, hi, e⟩ := h.at
  have key : ∀ (j : Nat), j ≤ (enc f).length → ∀ q ∈ dc f j, q.ok = true := by
    intro j
    induction j with
    | zero => intro _ q hq; rw [show dc f 0 = [f] from rfl, List.mem_singleton] at hq; rw [hq]; exact hok
    | succ j ih =>
      intro hj q hq
      obtain ⟨g', rest', e1, e2, -⟩ := dc_at f j (by omega)
      rw [e2, List.mem_append] at hq
      have hg := ih (by omega)
      rw [e1] at hg
      rcases hq with hq | hq
      · have hg' := hg g' (by simp)
        cases g' with
        | var s => cases hq
        | fls => cases hq
        | un k a => simp only [kids, List.mem_singleton] at hq; rw [hq]; simpa [Fm.ok] using hg'
        | bin k a b => simp only [kids, List.mem_cons, List.not_mem_nil, or_false] at hq; simp [Fm.ok] at hg'; rcases hq with rfl | rfl; exact hg'.1; exact hg'.2
      · exact hg q (List.mem_cons_of_mem _ hq)
  exact key i (by omega) g (by rw [e]; simp)
theorem Sl.atS {w : World} {A : Option Addr} {n c : Nat} {xs : List ByteArray} (h : Sl cS w (.slice A n c) xs) {k : Nat} (hk : k < xs.length) :
    ∃ b o, A = some ⟨b, o, none⟩ ∧ b < w.heap.size ∧ w.cell? ⟨b, o + k, none⟩ = some (.string xs[k]) := by
  obtain ⟨b, o, hA, hb, hc⟩ := h.cell hk
  have := hc 0 (.string xs[k]) rfl
  exact ⟨b, o, hA, hb, by simpa [cS] using this⟩
/- Plain law: the texts of all parts of a formula, each once, in ascending order. No program in sight. -/
/-- the texts of the first parts of a formula -/
def sbT8 (f : Fm) (n : Nat) : List T8 := (List.range n).map fun i => t8 (txt (pt f i))
theorem sbT8_succ (f : Fm) (n : Nat) : sbT8 f (n + 1) = sbT8 f n ++ [t8 (txt (pt f n))] := by
  unfold sbT8
  rw [List.range_succ, List.map_append]
  rfl
theorem sbT8_len (f : Fm) (n : Nat) : (sbT8 f n).length = n := by simp [sbT8]
/-- what SubformulasOf gives -/
def sbs8 (f : Fm) : List T8 := sbI8 (sbT8 f (enc f).length)
theorem sbI8_succ (f : Fm) (n : Nat) : sbI8 (sbT8 f (n + 1)) = ins8 (t8 (txt (pt f n))) (sbI8 (sbT8 f n)) := by
  unfold sbI8
  rw [sbT8_succ, List.foldl_append]
  rfl
theorem sbI8_len (f : Fm) (n : Nat) : (sbI8 (sbT8 f n)).length ≤ n := by
  have := (foldI (sbT8 f n) [] List.Pairwise.nil).2.2
  rw [sbT8_len] at this
  exact this
theorem sbs8_mem {f : Fm} {t : T8} (h : t ∈ sbs8 f) : ∃ g, Part f g ∧ t = t8 (txt g) := by
  have := ((foldI (sbT8 f (enc f).length) [] List.Pairwise.nil).2.1 t).1 h
  rcases this with h | h
  · unfold sbT8 at h
    obtain ⟨i, hi, rfl⟩ := List.mem_map.1 h
    exact ⟨_, ⟨i, List.mem_range.1 hi, rfl⟩, rfl⟩
  · cases h
/- The reference's SubformulasOf: texts inserted into an ascending list. -/
/-- texts as byte arrays -/
def bs (L : List T8) : List ByteArray := L.map fun l => (⟨⟨l⟩⟩ : ByteArray)
theorem bs_length (L : List T8) : (bs L).length = L.length := by simp [bs]
theorem bs_get (L : List T8) (k : Nat) (h : k < (bs L).length) : (bs L)[k] = ⟨⟨L[k]'(by rw [bs_length] at h; exact h)⟩⟩ := by simp [bs]
theorem bs_app (L M : List T8) : bs (L ++ M) = bs L ++ bs M := by simp [bs]
theorem t8_mk (b : ByteArray) : (⟨⟨t8 b⟩⟩ : ByteArray) = b := rfl
theorem ty_str : Ty Tryz.prog 62 9 (.string ⟨#[]⟩) 1 16 := Ty.mk' Tryz.underlying62 (by kernel_rfl) rfl (by decide)
theorem part_pe (f : Fm) {i : Nat} (hi : i < (enc f).length) : pe ((enc f).drop i) 1 i = ((i + (enc (pt f i)).length : Nat) : Int) ∧ i + (enc (pt f i)).length ≤ (enc f).length ∧ ((enc f).drop i).take (enc (pt f i)).length = enc (pt f i) := by
  obtain ⟨rest, h1⟩ := pt_drop f i hi
  refine ⟨by rw [h1, pe_enc1]; omega, ?_, by rw [h1, List.take_left']; rfl⟩
  have h2 := congrArg List.length h1
  rw [List.length_drop, List.length_append] at h2
  omega
/- The library's slices.Sort and slices.Compact at []string, in the words of Mem; the program's SubformulasOf. -/
/-- lists of bytes as strings -/
def cL8 : Cod T8 := ⟨1, fun x => [.string ⟨⟨x⟩⟩], fun _ => rfl, by decide, fun _ u hu => by simp at hu; subst hu; rfl⟩
theorem flat_bs (L : List T8) : flat cS (bs L) = flat cL8 L := by
  induction L with
  | nil => rfl
  | cons x L ih => rw [bs, List.map_cons, flat_cons, flat_cons, show L.map (fun l => (⟨⟨l⟩⟩ : ByteArray)) = bs L from rfl, ih]; rfl
theorem Ow.l8 {e : TypeId} {B : Nat} {w : World} {v : Value} {L : List T8} (h : Ow cS e B w v (bs L)) : Ow cL8 e B w v L := by
  obtain ⟨⟨A, c, hv, hc, hm⟩, h2⟩ := h
  rw [bs_length] at hv hc
  refine ⟨⟨A, c, hv, hc, hm⟩, ?_⟩
  rw [flat_bs] at h2
  rw [bs_length] at h2
  exact h2
theorem Ow.s8 {e : TypeId} {B : Nat} {w : World} {v : Value} {L : List T8} (h : Ow cL8 e B w v L) : Ow cS e B w v (bs L) := by
  obtain ⟨⟨A, c, hv, hc, hm⟩, h2⟩ := h
  rw [← bs_length] at hv hc
  refine ⟨⟨A, c, hv, hc, hm⟩, ?_⟩
  rw [flat_bs, bs_length]
  exact h2
theorem flat_cL8 (L : List T8) : flat cL8 L = L.map Go.Proofs.encStr := by
  induction L with
  | nil => rfl
  | cons x L ih => rw [flat_cons, List.map_cons, ih]; rfl
/-- an owned row of texts behind the library's change of it, cut to its first ys -/
theorem Ow.put8 {e : TypeId} {B g c q : Nat} {w : World} {xs ys zs : List T8} {os : Array Obj} (h : Ow cL8 e B w (.slice (some ⟨g, 0, none⟩) xs.length c) xs) (hd : (ys ++ zs).length = xs.length) :
    Ow cL8 e B (Go.Sort.grow (Go.Sort.putRow Go.Proofs.encStr (Go.Sort.ahead w q) g 0 (ys ++ zs).toArray) os) (.slice (some ⟨g, 0, none⟩) ys.length c) ys ∧ Below B w (Go.Sort.grow (Go.Sort.putRow Go.Proofs.encStr (Go.Sort.ahead w q) g 0 (ys ++ zs).toArray) os) := by
  obtain ⟨⟨A, c', hv, hc, hm⟩, h1, h2⟩ := h
  injection hv with _ _ hcc
  subst hcc
  rcases h2 with ⟨h0, _⟩ | ⟨g', cap, cur, hg, hB, hr, hn, hcap, hsz, htk⟩
  · cases h0
  · injection hg with hg _ hcap'
    injection hg with hg
    have hg' : g = g' := by injection hg
    subst hg'
    subst hcap'
    have hyl : ys.length ≤ xs.length := by rw [← hd, List.length_append]; omega
    refine ⟨⟨⟨_, _, rfl, by omega, hm⟩, ?_, ?_⟩, ?_⟩
    · rw [flat_length]
    · refine .inr ⟨g, c, _, rfl, hB, heap_sorted _ hr, by omega, hcap, by simpa [Go.Sort.putCells] using hsz, ?_⟩
      have hcs : (ys ++ zs).length ≤ cur.size := by
        have e1 : cL8.size = 1 := rfl
        rw [hsz, e1, hd]; omega
      have := take_putCells cur (ys ++ zs) hcs
      have e2 := congrArg (List.take ys.length) this
      rw [List.take_take, Nat.min_eq_left (by simp)] at e2
      rw [show ys.length * cL8.size = ys.length from Nat.mul_one _, e2, flat_cL8, ← List.map_take, List.take_left']
      rfl
    · have hgb := grownBy_sorted (w := w) (g := g) (n := q) (os := os) (ys ++ zs).toArray
      exact ⟨hgb.os, hgb.tape, hgb.output, hgb.size, fun k hk => hgb.block k (Nat.lt_of_lt_of_le hk (Nat.le_trans hB (Nat.le_of_lt (Array.getElem?_eq_some_iff.1 hr).1))) (fun e => by injection e; omega)⟩
theorem Ow.holds8 {e : TypeId} {B g c : Nat} {w : World} {xs : List T8} (h : Ow cL8 e B w (.slice (some ⟨g, 0, none⟩) xs.length c) xs) : Go.Sort.Holds Go.Proofs.encStr w g 0 xs.toArray ∧ g < w.heap.size ∧ B ≤ g ∧ xs.length ≤ c ∧ c ≤ 9223372036854775807 := by
  obtain ⟨⟨A, c', hv, hc, hm⟩, h1, h2⟩ := h
  injection hv with _ _ hcc
  subst hcc
  rcases h2 with ⟨h0, _⟩ | ⟨g', cap, cur, hg, hB, hr, hn, hcap, hsz, htk⟩
  · cases h0
  · injection hg with hg _ hcap'
    injection hg with hg
    have hg' : g = g' := by injection hg
    subst hg'
    refine ⟨holds_of_block hr (by rw [← flat_cL8, ← htk, show xs.length * cL8.size = xs.length from Nat.mul_one _]), (Array.getElem?_eq_some_iff.1 hr).1, hB, hc, hm⟩
/-- an owned slice is nil, or lies at the head of a block -/
theorem Ow.cases8 {e : TypeId} {B : Nat} {w : World} {v : Value} {xs : List T8} (h : Ow cL8 e B w v xs) : (v = .slice none 0 0 ∧ xs = []) ∨ ∃ g c, v = .slice (some ⟨g, 0, none⟩) xs.length c := by
  obtain ⟨hv, h1, h2⟩ := h
  rcases h2 with ⟨h0, hn⟩ | ⟨g', cap, cur, hg, -⟩
  · exact .inl ⟨h0, List.eq_nil_of_length_eq_zero hn⟩
  · exact .inr ⟨g', cap, hg⟩
theorem beq8 (x y : T8) : (x == y) = decide (x = y) := by
  by_cases h : x = y
  · rw [decide_eq_true h, h]; simp
  · rw [decide_eq_false h]; simpa using h
theorem eql8 (P : Program) (T : TypeId) : EqlAt P T Go.Proofs.encStr (fun x y => decide (x = y)) := ⟨fun x y w => by
  refine Eq.trans ((EqlAt.string P T).1 ⟨⟨x⟩⟩ ⟨⟨y⟩⟩ w) ?_
  show Result.ok (Value.bool ((⟨⟨x⟩⟩ : ByteArray).toList == (⟨⟨y⟩⟩ : ByteArray).toList)) w = Result.ok (Value.bool (decide (x = y))) w
  rw [Go.ByteArray.toList_eq, Go.ByteArray.toList_eq]
  show Result.ok (Value.bool (x == y)) w = _
  rw [beq8], fun op a b x y w => (EqlAt.string P T).2 op a b ⟨⟨x⟩⟩ ⟨⟨y⟩⟩ w⟩
theorem neq8 (P : Program) (T : TypeId) : NeqAt P T Go.Proofs.encStr (fun x y => decide (x = y)) := ⟨fun x y w => by
  refine Eq.trans ((NeqAt.string P T).1 ⟨⟨x⟩⟩ ⟨⟨y⟩⟩ w) ?_
  show Result.ok (Value.bool (!((⟨⟨x⟩⟩ : ByteArray).toList == (⟨⟨y⟩⟩ : ByteArray).toList))) w = Result.ok (Value.bool (!decide (x = y))) w
  rw [Go.ByteArray.toList_eq, Go.ByteArray.toList_eq]
  show Result.ok (Value.bool (!(x == y))) w = _
  rw [beq8], fun op a b x y w => (NeqAt.string P T).2 op a b ⟨⟨x⟩⟩ ⟨⟨y⟩⟩ w⟩
/- The shelf's layings, written out by the shelf's own program. -/
def Tryz.lSortS_ren : Go.Shelf.Ren := ⟨fun | 6 => 74 | 8 => 87 | 9 => 86 | 19 => 108 | 20 => 109 | 21 => 99 | 22 => 100 | 23 => 101 | 24 => 102 | 25 => 103 | 26 => 104 | 27 => 105 | 28 => 106 | 29 => 107 | 36 => 116 | 31 => 117 | 32 => 118 | 37 => 119 | 38 => 120 | 39 => 121 | 41 => 127 | n => n, fun | 27 => 62 | 29 => 9 | 3 => 3 | 32 => 103 | 26 => 62 | 0 => 0 | 44 => 125 | 46 => 127 | 4 => 4 | 36 => 117 | 35 => 116 | 41 => 122 | 5 => 5 | 9 => 9 | 53 => 132 | 57 => 136 | 63 => 139 | 64 => 140 | n => n, fun | n => n⟩
theorem Tryz.lSortS : Go.Proofs.SlLaysM.n6 Tryz.prog Tryz.lSortS_ren := {
  mixed := by kernel_rfl
  f6 := ⟨Tryz.f74.name, by decide, Tryz.func74.trans (congrArg some (by kernel_rfl))⟩
  f8 := Tryz.func87.trans (congrArg some (by kernel_rfl))
  f9 := ⟨Tryz.f86.name, by decide, Tryz.func86.trans (congrArg some (by kernel_rfl))⟩
  f19 := Tryz.func108.trans (congrArg some (by kernel_rfl))
  f20 := Tryz.func109.trans (congrArg some (by kernel_rfl))
  f21 := ⟨Tryz.f99.name, by decide, Tryz.func99.trans (congrArg some (by kernel_rfl))⟩
  f22 := ⟨Tryz.f100.name, by decide, Tryz.func100.trans (congrArg some (by kernel_rfl))⟩
  f23 := ⟨Tryz.f101.name, by decide, Tryz.func101.trans (congrArg some (by kernel_rfl))⟩
  f24 := ⟨Tryz.f102.name, by decide, Tryz.func102.trans (congrArg some (by kernel_rfl))⟩
  f25 := ⟨Tryz.f103.name, by decide, Tryz.func103.trans (congrArg some (by kernel_rfl))⟩
  f26 := ⟨Tryz.f104.name, by decide, Tryz.func104.trans (congrArg some (by kernel_rfl))⟩
  f27 := ⟨Tryz.f105.name, by decide, Tryz.func105.trans (congrArg some (by kernel_rfl))⟩
  f28 := ⟨Tryz.f106.name, by decide, Tryz.func106.trans (congrArg some (by kernel_rfl))⟩
  f29 := ⟨Tryz.f107.name, by decide, Tryz.func107.trans (congrArg some (by kernel_rfl))⟩
  f31 := Tryz.func117.trans (congrArg some (by kernel_rfl))
  f32 := Tryz.func118.trans (congrArg some (by kernel_rfl))
  f36 := ⟨Tryz.f116.name, by decide, Tryz.func116.trans (congrArg some (by kernel_rfl))⟩
  f37 := ⟨Tryz.f119.name, by decide, Tryz.func119.trans (congrArg some (by kernel_rfl))⟩
  f38 := ⟨Tryz.f120.name, by decide, Tryz.func120.trans (congrArg some (by kernel_rfl))⟩
  f39 := ⟨Tryz.f121.name, by decide, Tryz.func121.trans (congrArg some (by kernel_rfl))⟩
  f41 := ⟨Tryz.f127.name, by decide, Tryz.func127.trans (congrArg some (by kernel_rfl))⟩
  t0 := Tryz.underlying0
  a0 := Tryz.isAgg0
  z0 := Tryz.sizeOf0
  v0 := Tryz.zeroValue0
  t3 := Tryz.underlying3
  a3 := Tryz.isAgg3
  z3 := Tryz.sizeOf3
  v3 := Tryz.zeroValue3
  t4 := Tryz.underlying4
  a4 := Tryz.isAgg4
  z4 := Tryz.sizeOf4
  v4 := Tryz.zeroValue4
  t5 := Tryz.underlying5
  a5 := Tryz.isAgg5
  z5 := Tryz.sizeOf5
  v5 := Tryz.zeroValue5
  t9 := Tryz.underlying9
  a9 := Tryz.isAgg9
  z9 := Tryz.sizeOf9
  v9 := Tryz.zeroValue9
  t26 := Tryz.underlying62
  a26 := Tryz.isAgg62
  z26 := Tryz.sizeOf62
  v26 := Tryz.zeroValue62
  t27 := Tryz.underlying62
  a27 := Tryz.isAgg62
  z27 := Tryz.sizeOf62
  v27 := Tryz.zeroValue62
  t29 := Tryz.underlying9
  a29 := Tryz.isAgg9
  z29 := Tryz.sizeOf9
  v29 := Tryz.zeroValue9
  t32 := Tryz.underlying103
  a32 := Tryz.isAgg103
  z32 := Tryz.sizeOf103
  v32 := Tryz.zeroValue103
  t35 := Tryz.underlying116
  a35 := Tryz.isAgg116
  z35 := Tryz.sizeOf116
  v35 := Tryz.zeroValue116
  t36 := Tryz.underlying117
  a36 := Tryz.isAgg117
  z36 := Tryz.sizeOf117
  v36 := Tryz.zeroValue117
  t41 := Tryz.underlying122
  a41 := Tryz.isAgg122
  z41 := Tryz.sizeOf122
  v41 := Tryz.zeroValue122
  t44 := Tryz.underlying125
  a44 := Tryz.isAgg125
  z44 := Tryz.sizeOf125
  v44 := Tryz.zeroValue125
  t46 := Tryz.underlying127
  a46 := Tryz.isAgg127
  z46 := Tryz.sizeOf127
  v46 := Tryz.zeroValue127
  t53 := Tryz.underlying132
  a53 := Tryz.isAgg132
  z53 := Tryz.sizeOf132
  v53 := Tryz.zeroValue132
  t57 := Tryz.underlying136
  a57 := Tryz.isAgg136
  z57 := Tryz.sizeOf136
  v57 := Tryz.zeroValue136
  t63 := Tryz.underlying139
  a63 := Tryz.isAgg139
  z63 := Tryz.sizeOf139
  v63 := Tryz.zeroValue139
  t64 := Tryz.underlying140
  a64 := Tryz.isAgg140
  z64 := Tryz.sizeOf140
  v64 := Tryz.zeroValue140 }

def Tryz.lCmpS_ren : Go.Shelf.Ren := ⟨fun | 43 => 75 | n => n, fun | 22 => 62 | 23 => 9 | 3 => 3 | 4 => 4 | 0 => 0 | n => n, fun | n => n⟩
theorem Tryz.lCmpS : Go.Proofs.SlLaysE.n43 Tryz.prog Tryz.lCmpS_ren := {
  mixed := by kernel_rfl
  f43 := ⟨Tryz.f75.name, by decide, Tryz.func75.trans (congrArg some (by kernel_rfl))⟩
  t0 := Tryz.underlying0
  a0 := Tryz.isAgg0
  z0 := Tryz.sizeOf0
  v0 := Tryz.zeroValue0
  t3 := Tryz.underlying3
  a3 := Tryz.isAgg3
  z3 := Tryz.sizeOf3
  v3 := Tryz.zeroValue3
  t4 := Tryz.underlying4
  a4 := Tryz.isAgg4
  z4 := Tryz.sizeOf4
  v4 := Tryz.zeroValue4
  t22 := Tryz.underlying62
  a22 := Tryz.isAgg62
  z22 := Tryz.sizeOf62
  v22 := Tryz.zeroValue62
  a23 := Tryz.isAgg9
  z23 := Tryz.sizeOf9 }


/-- slices.Sort of a row of texts of the call's own -/
theorem slices_SortS (v : Value) (xs : List T8) (B : Nat) (w : World) (h : Ow cL8 9 B w v xs) (hl : xs.length ≤ 1048576) :
    Calls Tryz.prog 74 #[v] w fun e w' => e = .returned (.tuple #[]) ∧ Ow cL8 9 B w' v (xs.mergeSort fun x y => decide (x ≤ y)) ∧ Below B w w' := by
  rcases h.cases8 with ⟨rfl, rfl⟩ | ⟨g, c, rfl⟩
  · have hcon := AnyM.slices_Sort_string_none Tryz.lSortS none 0 w
    change Calls Tryz.prog 74 _ _ _ at hcon
    exact hcon.mono fun e w' ⟨he, hw⟩ => ⟨he, by simpa using Ow.nil _ _, hw ▸ Below.refl _ _⟩
  · obtain ⟨h1, h2, h3, h4, h5⟩ := h.holds8
    have hcon := AnyM.slices_Sort_string Tryz.lSortS g 0 c xs w h1 h2 (by omega)
    change Calls Tryz.prog 74 _ _ _ at hcon
    refine hcon.mono fun e w' ⟨he, n, os, hw⟩ => ?_
    subst hw
    have := h.put8 (ys := xs.mergeSort fun x y => decide (x ≤ y)) (zs := []) (q := n) (os := os) (by rw [List.append_nil, List.length_mergeSort])
    rw [List.append_nil, List.length_mergeSort] at this
    exact ⟨he, this⟩
/-- slices.Compact of a row of texts of the call's own -/
theorem slices_CompactS (v : Value) (xs : List T8) (B : Nat) (w : World) (h : Ow cL8 9 B w v xs) (hl : xs.length ≤ 1048576) :
    Calls Tryz.prog 75 #[v] w fun e w' => ∃ u, e = .returned u ∧ Ow cL8 9 B w' u (Lib.compactUpTo xs.toArray xs.length) ∧ Below B w w' := by
  rcases h.cases8 with ⟨rfl, rfl⟩ | ⟨g, c, rfl⟩
  · clear h
    go_enter Tryz.func75, Tryz.ntmps75
    go_wp2
    go_ret
    exact ⟨_, rfl, Ow.nil _ _, Below.refl _ _⟩
  · obtain ⟨h1, h2, h3, h4, h5⟩ := h.holds8
    have hcon := AnyE.slices_Compact Tryz.lCmpS Go.Proofs.encStr (fun _ => rfl) (eql8 _ _) (neq8 _ _) [] Tryz.zeroValue9 g 0 c xs.toArray w h1 (by simp; omega) (by simpa using h4)
    change Calls Tryz.prog 75 _ _ _ at hcon
    refine hcon.mono fun e w' ⟨he, q, hw⟩ => ?_
    subst hw
    have hlen : (Lib.compactUpTo xs.toArray xs.length).length ≤ xs.length := by
      unfold Lib.compactUpTo
      rw [List.length_map]
      have := List.length_filter_le (Lib.keeps xs.toArray) (List.range xs.length)
      simpa using this
    have := h.put8 (ys := Lib.compactUpTo xs.toArray xs.length) (zs := List.replicate (xs.length - (Lib.compactUpTo xs.toArray xs.length).length) []) (q := q) (os := #[]) (by simp; omega)
    simp only [Go.Sort.grow_empty] at this
    refine ⟨_, he, ?_⟩
    simpa using this
/- slices.Grow and slices.Concat at strings. Written by gen12A.py. -/
/-- appending a make to nil: an empty slice of the call's own, with room -/
theorem grown_nilS (w : World) (n : Nat) (h0 : 0 < n) (hn : n ≤ 1048576) :
    ∃ w' cap, (∀ (ty : TypeId), (Builtin.append_ #[62, 3] ty #[.slice none 0 0, .int .i64 n]).run Tryz.prog w = .ok (.slice (some ⟨w.heap.size, 0, none⟩) n cap) w') ∧ n ≤ cap ∧ cap ≤ maxLen ∧
      Ow cS 9 w.heap.size w' (.slice (some ⟨w.heap.size, 0, none⟩) 0 cap) [] ∧ Below w.heap.size w w' := by
  obtain ⟨i, hi, hz, hsize, hby⟩ := ty_str.info
  have hs : i.size = 1 := hsize
  have hb : i.bytes = 16 := hby
  have hge := grownCap_ge w n 0 9
  have hle := grownCap_le_maxLen w n 0 9 (by simp only [maxLen]; omega)
  refine ⟨_, _, fun ty => Lib.run_append_nil_zeros w 62 3 ty 9 i _ .i64 .i64 ty_str.under Tryz.underlying3 hi hz n h0 (by omega) (by omega) (by rw [hb]; omega), hge, hle, ⟨⟨_, _, rfl, Nat.zero_le _, by have := hle; simp only [maxLen] at this; omega⟩, ?_⟩, ?_⟩
  · refine World.ownsRow_made _ _ _ (Nat.le_refl _) hle ?_
    show _ = grownCap w n 0 9 * 1
    have hc : (Value.string ⟨#[]⟩).cells.size = 1 := rfl
    simp only [Array.size_append, size_zeroCells, hc]
    omega
  · exact (below_drewN (Below.refl _ _) 1).alloc (Nat.le_refl _) _
theorem slices_Grow_nilS (n : Nat) (w : World) (hn : n ≤ 1048576) :
    Calls Tryz.prog 85 #[.slice none 0 0, .int .i64 n] w fun e w' => ∃ u, e = .returned u ∧ Ow cS 9 w.heap.size w' u [] ∧ Below w.heap.size w w' := by
  by_cases h0 : 0 < n
  · obtain ⟨w1, cap, hr, hge, hle, ho, hb⟩ := grown_nilS w n h0 hn
    have hle' : cap ≤ 9223372036854775807 := by simpa only [maxLen] using hle
    have HR := Lib.hid hr; have HO := Lib.hid ho; have HB := Lib.hid hb
    clear hr ho hb
    go_enter Tryz.func85, Tryz.ntmps85
    go_wp2_with (at_builtin; refine stopHere ?_)
    refine goHere ?_
    refine Lib.wpList_append_run _ rfl _ _ _ _ rfl _ _ rfl rfl _ _ (HR.out _) ?_
    go_wp2
    go_ret
    exact ⟨_, rfl, HO.out, HB.out⟩
  · obtain rfl : n = 0 := by omega
    go_enter Tryz.func85, Tryz.ntmps85
    go_wp2
    go_ret
    exact ⟨_, rfl, Ow.nil _ _, Below.refl _ _⟩

theorem slices_Concat_strs (v : Value) (xss : List (List ByteArray)) (w : World) (h : Sl2 cS w v xss) (hl : xss.length ≤ 1048576) (hs : xss.flatten.length ≤ 1048576) :
    Calls Tryz.prog 73 #[v] w fun e w' => ∃ u, e = .returned u ∧ Ow cS 9 w.heap.size w' u xss.flatten ∧ Below w.heap.size w w' := by
  obtain ⟨A, c, rfl⟩ := h.opn
  have H := Lib.hid h; clear h
  go_enter Tryz.func73, Tryz.ntmps73
  go_wp2
  go_loop [3, 11] (fun s i => ∃ j : Nat, j ≤ xss.length ∧ i = .int .i64 j ∧ s = .int .i64 ((xss.take j).flatten.length : Nat)) (fun _ i => xss.length - (intOf i).toNat)
  case atStart => exact ⟨0, Nat.zero_le _, rfl, rfl⟩
  case round =>
    obtain ⟨j, hj, rfl, rfl⟩ := hrel
    by_cases hlt : j < xss.length
    · obtain ⟨b, o, Ai, ni, ci, rfl, hbl, hc0, hsj⟩ := H.out.at_ hlt
      obtain ⟨A', c', he⟩ := hsj.opn
      injection he with e1 e2 e3
      subst e1 e2 e3
      have h1 := congrArg List.length (flat_take_succ xss hlt)
      have h2 := flat_take_le xss (j + 1)
      rw [List.length_append] at h1
      obtain ⟨S, hS⟩ : ∃ S, (xss.take j).flatten.length = S := ⟨_, rfl⟩
      obtain ⟨T, hT⟩ : ∃ T, (xss.take (j + 1)).flatten.length = T := ⟨_, rfl⟩
      obtain ⟨M, hM⟩ : ∃ M, xss[j].length = M := ⟨_, rfl⟩
      rw [hS, hT, hM] at h1
      rw [hT] at h2
      rw [hM] at hc0
      rw [hS]
      have HT := Lib.hid hT
      have hb1 : S + M ≤ 1048576 := by omega
      have hw : IntKind.i64.wrap ((S : Int) + (M : Int)) = ((S + M : Nat) : Int) := by rw [IntWalk.i64_in _ ⟨by omega, by omega⟩]; omega
      have HTS := Lib.hid h1
      clear hS hT hM h1 h2 hsj
      go_wp2
      go_round
      case rel => exact ⟨j + 1, by omega, by go_num, by rw [HT.out, HTS.out, Int.natCast_add]⟩
      case measure => simp [intOf]; omega
    · obtain rfl : j = xss.length := by omega
      have h2 := flat_take_le xss xss.length
      obtain ⟨S, hS⟩ : ∃ S, (xss.take xss.length).flatten.length = S := ⟨_, rfl⟩
      rw [hS] at h2 ⊢
      clear hS
      have hS : S ≤ 1048576 := by omega
      clear h2
      go_wp2_with fail
      refine (slices_Grow_nilS S _ hS).mono ?_
      rintro e w1 ⟨u, rfl, ho, hb⟩
      have O := Lib.hid ho
      have HB := Lib.hid hb
      clear ho hb
      go_wp2
      go_loopw [6, 27] (fun v i wr => ∃ j : Nat, j ≤ xss.length ∧ i = .int .i64 j ∧ Ow cS 9 w.heap.size wr v (xss.take j).flatten ∧ Below w.heap.size w wr) (fun _ i _ => xss.length - (intOf i).toNat)
      case atStart => exact ⟨0, Nat.zero_le _, rfl, O.out, HB.out⟩
      case round =>
        obtain ⟨j, hj, rfl, ho, hb⟩ := hrel
        have HO := Lib.hid ho
        have HW := Lib.hid hb
        have hz := hb.size
        clear ho hb
        by_cases hlt : j < xss.length
        · obtain ⟨b, o, Ai, ni, ci, rfl, hbl, hc0, hsj⟩ := (H.out.below HW.out).at_ hlt
          have HS := Lib.hid hsj
          have HT := Lib.hid (flat_take_succ xss hlt)
          have h1 := congrArg List.length (flat_take_succ xss hlt)
          have h2 := flat_take_le xss (j + 1)
          rw [List.length_append] at h1
          have hsum : ((xss.take j).flatten.length + xss[j].length) ≤ 1048576 := by omega
          clear h1 h2 hsj
          go_wp2_with (at_builtin; refine stopHere ?_)
          refine goHere ?_
          refine ap_sl (K := cS) _ ty_str rfl _ _ rfl rfl rfl (B := w.heap.size) (xs := (xss.take j).flatten) (news := xss[j]) HO.out HS.out (by omega) hz ?_
          intro v1 w2 ho hg hb hat
          have HW2 := Lib.hid (HW.out.trans hb)
          have O2 := Lib.hid ho
          clear ho hg hb hat hsum
          go_wp2
          go_roundw
          case rel => exact ⟨j + 1, by omega, by go_num, by rw [HT.out]; exact O2.out, HW2.out⟩
          case measure => simp [intOf]; omega
        · obtain rfl : j = xss.length := by omega
          have HE : Hid ((xss.take xss.length).flatten = xss.flatten) := Lib.hid (by rw [List.take_length])
          go_wp2
          go_ret
          exact ⟨_, rfl, by rw [← HE.out]; exact HO.out, HW.out⟩
end Go.Proofs.YtaigiopoogbbbaaGreat
