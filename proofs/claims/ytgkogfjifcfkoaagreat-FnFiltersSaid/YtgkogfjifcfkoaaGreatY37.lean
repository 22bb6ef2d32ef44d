/- The reference's source of drawn numbers: what it holds, and what its three functions do to it. -/
import Derived.Test.YtgkogfjifcfkoaaGreatY02
import Derived.Test.YtgkogfjifcfkoaaGreatY01
namespace Go.Proofs.YtgkogfjifcfkoaaGreat
open Go.RowKit
set_option linter.unusedVariables false
set_option linter.unusedSimpArgs false
theorem Src_ofInt64 (a : Nat) (ha : a < 18446744073709551616) : (BitVec.ofInt 64 (a : Int)).toNat = a := by
  rw [BitVec.toNat_ofInt]; omega
theorem Src_and (a b : Nat) (ha : a < 18446744073709551616) (hb : b < 18446744073709551616) : bits .and .u64 (a : Int) (b : Int) = ((a &&& b : Nat) : Int) := by
  have hl : a &&& b ≤ a := Nat.and_le_left
  show IntKind.u64.wrap ((BitVec.ofInt 64 (a : Int) &&& BitVec.ofInt 64 (b : Int)).toNat : Int) = _
  rw [BitVec.toNat_and, Src_ofInt64 a ha, Src_ofInt64 b hb]
  exact IntWalk.u64_in _ ⟨by omega, by omega⟩
theorem Src_u64 (z : Int) : ∃ k : Nat, IntKind.u64.wrap z = (k : Int) ∧ k < 18446744073709551616 := by
  have h : 0 ≤ IntKind.u64.wrap z ∧ IntKind.u64.wrap z < 18446744073709551616 := by
    show 0 ≤ z % 18446744073709551616 ∧ z % 18446744073709551616 < 18446744073709551616
    omega
  exact ⟨(IntKind.u64.wrap z).toNat, by omega, by omega⟩
/-- a byte -/
def cY : Cod (Fin 256) := ⟨1, fun x => [.int .u8 (x.val : Int)], fun _ => rfl, by decide, fun _ u hu => by simp at hu; subst hu; rfl⟩
/-- the source in block g, over the code xs that reads in w0 -/
structure Src (t : TypeId) (w0 : World) (v : Value) (xs : List (Fin 256)) (w : World) (g : Nat) : Prop where
  sl : Sl cY w0 v xs
  lo : w0.heap.size ≤ g
  bel : Below w0.heap.size w0 w
  len : xs.length ≤ 4096
  box : ∃ k h : Nat, Blk w g t #[v, .int .i64 (k : Int), .int .u64 (h : Int)] ∧ k ≤ xs.length ∧ h < 18446744073709551616
section
variable {t : TypeId} {w0 w w1 : World} {v : Value} {xs : List (Fin 256)} {g : Nat}
theorem Src.lt (h : Src t w0 v xs w g) : g < w.heap.size := by obtain ⟨k, h, hb, _⟩ := h.box; exact hb.lt
theorem Src.below (h : Src t w0 v xs w g) (hb : Below w.heap.size w w1) : Src t w0 v xs w1 g := by
  obtain ⟨k, u, hk, h1, h2⟩ := h.box
  have hlo := h.lo
  have hl := h.lt
  exact ⟨h.sl, h.lo, h.bel.trans (hb.mono (by omega)), h.len, k, u, hk.below hb hl, h1, h2⟩
theorem Src.grown (h : Src t w0 v xs w g) {row : Option Nat} (hb : w.grownBy w1 row) (hne : ∀ k, row = some k → w0.heap.size ≤ k ∧ k ≠ g) : Src t w0 v xs w1 g := by
  obtain ⟨k, u, hk, h1, h2⟩ := h.box
  have hlo := h.lo
  have hl := h.lt
  exact ⟨h.sl, h.lo, below_grown h.bel hb (by omega) (fun k hk => (hne k hk).1), h.len, k, u, hk.grown hb (fun e => (hne g e.symm).2 rfl), h1, h2⟩
theorem Src.drewN (h : Src t w0 v xs w g) (n : Nat) : Src t w0 v xs (w.drewN n) g := h.below (below_drewN (Below.refl _ _) n)
theorem Src.alloc (h : Src t w0 v xs w g) (o : Obj) : Src t w0 v xs (w.alloc o) g := h.below ((Below.refl _ _).alloc (Nat.le_refl _) o)
theorem Src.far (h : Src t w0 v xs w g) {p : Addr} (hp : p.block ≠ g) (hl : w0.heap.size ≤ p.block) (u : Value) : Src t w0 v xs (w.setCell p u) g := by
  obtain ⟨k, x, hk, h1, h2⟩ := h.box
  exact ⟨h.sl, h.lo, h.bel.setCell hl u, h.len, k, x, hk.far (fun e => hp e.symm) u, h1, h2⟩
end
theorem spec_l01Next (w0 : World) (v : Value) (xs : List (Fin 256)) (w : World) (g : Nat) (n : Int) (S : Src 95 w0 v xs w g) (h1 : 1 ≤ n) (h2 : n ≤ 9223372036854775807) :
    Calls Tryz.prog 69 #[.pointer (some ⟨g, 0, none⟩), .int .i64 n] w fun e w' => ∃ x : Nat, e = .returned (.int .i64 (x : Int)) ∧ (x : Int) < n ∧ Src 95 w0 v xs w' g ∧ w.grownBy w' (some g) ∧ w'.heap.size = w.heap.size := by
  obtain ⟨k, h, hB, hk, hh⟩ := S.box
  have hsl := S.sl.below S.bel
  have hlen := S.len
  obtain ⟨A, c, rfl⟩ := S.sl.opn
  have c0 : w.cell? ⟨g, 0, none⟩ = some (.slice A xs.length c) := hB.cell 0
  have c1 : w.cell? ⟨g, 1, none⟩ = some (.int .i64 (k : Int)) := hB.cell 1
  have c2 : w.cell? ⟨g, 2, none⟩ = some (.int .u64 (h : Int)) := hB.cell 2
  have f1 := hB.frozen 1
  have f2 := hB.frozen 2
  obtain ⟨h', e1, hh'⟩ := Src_u64 (IntKind.u64.wrap ((h : Int) * 6364136223846793005) + 1442695040888963407)
  have e2 : ((h' : Int) / 8589934592) = ((h' / 8589934592 : Nat) : Int) := by omega
  have e3 := Src_and (h' / 8589934592) 16777215 (by omega) (by decide)
  have hy : (h' / 8589934592) &&& 16777215 ≤ 16777215 := Nat.and_le_right
  obtain ⟨y, hye⟩ : ∃ y : Nat, (h' / 8589934592) &&& 16777215 = y := ⟨_, rfl⟩
  rw [hye] at hy e3
  have e4 : wrap64 (y : Int) = (y : Int) := IntWalk.wrap64_in _ ⟨by omega, by omega⟩
  replace e1 := Lib.hid e1; replace e2 := Lib.hid e2; replace e3 := Lib.hid e3; replace e4 := Lib.hid e4; replace hye := Lib.hid hye
  go_enter Tryz.func69, Tryz.ntmps69
  go_wp2
  rw [e1.out, e2.out, show (16777215 : Int) = ((16777215 : Nat) : Int) from rfl, e3.out, e4.out]
  have hB1 := hB.set_ 2 (.int .u64 (h' : Int))
  have HG1 := Lib.hid (grown_set (World.grownBy.refl w (some g)) rfl 2 (.int .u64 (h' : Int)))
  have HZ1 : Hid ((w.setCell ⟨g, 2, none⟩ (.int .u64 (h' : Int))).heap.size = w.heap.size) := Lib.hid (by simp [World.setCell])
  clear e1 e2 e3 e4 hye
  generalize World.setCell w _ _ = w1 at *
  have S1 : Src 95 w0 (.slice A xs.length c) xs w1 g := ⟨S.sl, S.lo, below_grown S.bel HG1.out (Nat.le_of_lt (Nat.lt_of_le_of_lt S.lo S.lt)) (fun k e => by injection e with e; have := S.lo; omega), hlen, k, h', hB1, hk, hh'⟩
  clear c0 c1 c2 f1 f2 hB hsl
  have hsl := S1.sl.below S1.bel
  have c0 : w1.cell? ⟨g, 0, none⟩ = some (.slice A xs.length c) := hB1.cell 0
  have c1 : w1.cell? ⟨g, 1, none⟩ = some (.int .i64 (k : Int)) := hB1.cell 1
  have f1 := hB1.frozen 1
  by_cases hlt : k < xs.length
  · obtain ⟨b, o, rfl, hb, hcell⟩ := hsl.cell hlt
    have c3 := hcell 0 (.int .u8 (xs[k].val : Int)) rfl
    have hy2 := xs[k].isLt
    generalize xs[k].val = q at *
    rw [show o + k * cY.size + 0 = o + k by simp [cY]] at c3
    replace hcell := Lib.hid hcell
    go_wp2
    go_quiet (fail)
    go_wp2
    go_quiet (fail)
    go_wp2
    go_ret
    rename_i nq'
    have hm := Int.emod_lt_of_pos ((y : Int) + (q : Int)) (show 0 < n by omega)
    have hm0 := Int.emod_nonneg ((y : Int) + (q : Int)) (show n ≠ 0 by omega)
    have HG2 := grown_set (grown_drewN HG1.out (nq' + nq)) rfl 1 (.int .i64 ((k : Int) + 1))
    refine ⟨(((y : Int) + (q : Int)) % n).toNat, congrArg (fun z => Ending.returned (.int .i64 z)) (Int.toNat_of_nonneg hm0).symm, by rw [Int.toNat_of_nonneg hm0]; exact hm, ⟨S.sl, S.lo, below_grown S.bel HG2 (Nat.le_of_lt (Nat.lt_of_le_of_lt S.lo S.lt)) (fun k e => by injection e with e; have := S.lo; omega), hlen, k + 1, h', by have := (hB1.drewN (nq' + nq)).set_ 1 (.int .i64 ((k : Int) + 1)); simpa using this, by omega, hh'⟩, HG2, ?_⟩
    have := HZ1.out
    simpa [World.setCell] using this
  · obtain rfl : k = xs.length := by omega
    go_wp2
    go_quiet (fail)
    go_wp2
    go_ret
    have hm := Int.emod_lt_of_pos (y : Int) (show 0 < n by omega)
    have hm0 := Int.emod_nonneg (y : Int) (show n ≠ 0 by omega)
    exact ⟨((y : Int) % n).toNat, congrArg (fun z => Ending.returned (.int .i64 z)) (Int.toNat_of_nonneg hm0).symm, by rw [Int.toNat_of_nonneg hm0]; exact hm, S1.drewN _, grown_drewN HG1.out _, HZ1.out⟩
theorem spec_l01Pick (w0 : World) (v : Value) (xs : List (Fin 256)) (w : World) (g : Nat) (u : Value) (L : List Int) (S : Src 95 w0 v xs w g) (hL : Sl cI w u L) (hne : u.ownBlock = none ∨ u.ownBlock ≠ some g) (h1 : 1 ≤ L.length) (h2 : L.length ≤ 1000000) :
    Calls Tryz.prog 120 #[.pointer (some ⟨g, 0, none⟩), u] w fun e w' => ∃ x : Int, e = .returned (.int .i64 x) ∧ x ∈ L ∧ Src 95 w0 v xs w' g ∧ w.grownBy w' (some g) ∧ w'.heap.size = w.heap.size := by
  obtain ⟨A, c, rfl⟩ := hL.opn
  go_enter Tryz.func120, Tryz.ntmps120
  go_wp2_with fail
  refine (spec_l01Next w0 v xs w g L.length S (by omega) (by omega)).mono ?_
  rintro e w1 ⟨k, rfl, hk, S1, hg, hz⟩
  have hkl : k < L.length := by omega
  have hL1 := hL.grown hg hne
  obtain ⟨b, o, rfl, hb, hcell⟩ := hL1.cell hkl
  have c0 := hcell 0 (.int .i64 L[k]) rfl
  rw [show o + k * cI.size + 0 = o + k by simp [cI]] at c0
  have hm : L[k] ∈ L := List.getElem_mem hkl
  generalize L[k] = x at *
  replace hz := Lib.hid hz
  replace hcell := Lib.hid hcell
  go_wp2
  go_ret
  exact ⟨x, rfl, hm, S1, hg, hz.out⟩
set_option maxRecDepth 100000 in
theorem spec_l01From (v : Value) (xs : List (Fin 256)) (w : World) (h : Sl cY w v xs) (hl : xs.length ≤ 4096) :
    Calls Tryz.prog 48 #[v] w fun e w' => e = .returned (.pointer (some ⟨w.heap.size, 0, none⟩)) ∧ Src 95 w v xs w' w.heap.size ∧ Below w.heap.size w w' := by
  obtain ⟨A, c, rfl⟩ := h.opn
  go_enter Tryz.func48, Tryz.ntmps48
  go_wp2
  go_loopw [4] (fun i wr => ∃ j : Nat, j ≤ xs.length ∧ i = .int .i64 j ∧ (∃ h : Nat, h < 18446744073709551616 ∧ Blk wr w.heap.size 95 #[.slice A xs.length c, .int .i64 ((0 : Nat) : Int), .int .u64 (h : Int)]) ∧ Below w.heap.size w wr) (fun i _ => xs.length - (intOf i).toNat)
  case atStart =>
    refine ⟨0, Nat.zero_le _, rfl, ⟨7129 + xs.length, by omega, ?_⟩, (Below.refl _ _).alloc (Nat.le_refl _) _⟩
    have := Blk.new w 95 #[.slice A xs.length c, .int .i64 0, .int .u64 (7129 + (xs.length : Int))]
    simpa using this
  case round =>
    obtain ⟨j, hj, rfl, ⟨z, hz, hB⟩, hbl⟩ := hrel
    have HB := Lib.hid hbl
    by_cases hlt : j < xs.length
    · have hlt2 : j < 4096 := by omega
      obtain ⟨b, o, rfl, hb, hcell⟩ := (h.below hbl).cell hlt
      have c0 := hcell 0 (.int .u8 (xs[j].val : Int)) rfl
      rw [show o + j * cY.size + 0 = o + j by simp [cY]] at c0
      have hy2 := xs[j].isLt
      generalize xs[j].val = q at *
      replace hcell := Lib.hid hcell
      have c2 : wr.cell? ⟨w.heap.size, 2, none⟩ = some (.int .u64 (z : Int)) := hB.cell 2
      have f2 : (wr.drew).frozen? ⟨w.heap.size, 2, none⟩ = false := hB.frozen 2
      have c2' : (wr.drew).cell? ⟨w.heap.size, 2, none⟩ = some (.int .u64 (z : Int)) := hB.cell 2
      have HB2 := Lib.hid (fun u => Blk.set_ (w := wr.drew) hB 2 u)
      have HG := Lib.hid (fun u => (HB.out.drew).setCell (p := ⟨w.heap.size, 2, none⟩) (Nat.le_refl _) u)
      clear hbl hB h
      go_wp2
      go_still_tail 15, (by kernel_rfl)
      change wpList _ _ _ _ _ (World.drew _)
      generalize World.drew _ = w4 at *
      go_wp2
      obtain ⟨z', e1, hz'⟩ := Src_u64 (IntKind.u64.wrap (IntKind.u64.wrap ((z : Int) * 1099511628211) + (q : Int)) + 11)
      rw [e1]
      have hB3 := HB2.out (.int .u64 (z' : Int))
      exact ⟨⟨j + 1, by omega, by go_num, ⟨z', hz', by simpa using hB3⟩, HG.out _⟩, by simp [intOf]; omega⟩
    · obtain rfl : j = xs.length := by omega
      go_wp2
      go_ret
      exact ⟨rfl, ⟨h, Nat.le_refl _, HB.out, hl, 0, z, hB, Nat.zero_le _, hz⟩, HB.out⟩
end Go.Proofs.YtgkogfjifcfkoaaGreat
