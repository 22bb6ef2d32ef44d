/- Joined of several texts. -/
import Derived.Test.YtgkogfjifcfkoaaGreatY02
import Derived.Test.YtgkogfjifcfkoaaGreatY26
import Derived.Test.YtgkogfjifcfkoaaGreatY03
import Derived.Test.YtgkogfjifcfkoaaGreatY37
import Derived.Test.YtgkogfjifcfkoaaGreatY06
import Derived.Test.YtgkogfjifcfkoaaGreatY04
namespace Go.Proofs.YtgkogfjifcfkoaaGreat
/- Over any program: append as an operation of a drawn region. -/
open Go.RowKit
set_option linter.unusedVariables false
set_option linter.unusedSimpArgs false
/- Joined of several texts: 03v, 03w, 03x, 03y, 03z, 03f, 03h, 03k, 33n. -/
open Go.RowKit
set_option linter.unusedVariables false
set_option linter.unusedSimpArgs false
/- Contracts of what FormulaOfTrace joins with: l02True, l02Own, truth, l02All. -/
/- Contract of joinAll of the program. -/
/- l02All and joinAll at the empty list. -/
/- Contract of the program's formula of a Trace. -/
/- Contract of the program's formula of a Trace. Written by gen03f.py. -/
/- Contracts of FormulaOfTrace, of the program and of the reference. -/
/- Contracts of LetterlessNormal, of the program and of the reference. -/
/- Joined of several texts: Dm, Dn, Df, Ds. -/
open Go.RowKit
set_option linter.unusedVariables false
set_option linter.unusedSimpArgs false
/- The reference's drawing functions of formulas, frames and models, by the shape of what they draw (written by program, gendr.py). -/
theorem gr_far {w X Y : World} {g : Nat} {row : Option Nat} (h : w.grownBy X (some g)) (k : X.grownBy Y row) (hr : ∀ k, row = some k → k = g ∨ w.heap.size ≤ k) : w.grownBy Y (some g) :=
  ⟨k.os.trans h.os, k.tape.trans h.tape, k.output.trans h.output, Nat.le_trans h.size k.size, fun i hi hne =>
    (k.block i (Nat.lt_of_lt_of_le hi h.size) (fun e => (hr i e.symm).elim (fun e => hne (by rw [e])) (fun e => by omega))).trans (h.block i hi hne)⟩
theorem gr_below {w X Y : World} {g : Nat} (h : w.grownBy X (some g)) (k : Below X.heap.size X Y) : w.grownBy Y (some g) :=
  ⟨k.os.trans h.os, k.tape.trans h.tape, k.output.trans h.output, Nat.le_trans h.size k.size, fun i hi hne => (k.block i (Nat.lt_of_lt_of_le hi h.size)).trans (h.block i hi hne)⟩
/-- something is being drawn since w, by the source in g -/
structure Dg (w0 : World) (v : Value) (xs : List (Fin 256)) (g : Nat) (w X : World) : Prop where
  S : Src 95 w0 v xs X g
  gr : w.grownBy X (some g)
  lt : g < w.heap.size
section
variable {w0 : World} {v : Value} {xs : List (Fin 256)} {g : Nat} {w X Y : World} {α : Type} {K : Cod α} {e : TypeId} {u : Value} {L : List α}
theorem Dg.start (S : Src 95 w0 v xs w g) : Dg w0 v xs g w w := ⟨S, World.grownBy.refl w _, S.lt⟩
theorem Dg.below (d : Dg w0 v xs g w X) (hb : Below X.heap.size X Y) : Dg w0 v xs g w Y := ⟨d.S.below hb, gr_below d.gr hb, d.lt⟩
theorem Dg.alloc (d : Dg w0 v xs g w X) (o : Obj) : Dg w0 v xs g w (X.alloc o) := d.below ((Below.refl _ _).alloc (Nat.le_refl _) o)
theorem Dg.drewN (d : Dg w0 v xs g w X) (n : Nat) : Dg w0 v xs g w (X.drewN n) := d.below (below_drewN (Below.refl _ _) n)
theorem Dg.call (d : Dg w0 v xs g w X) (hS : Src 95 w0 v xs Y g) (hg : X.grownBy Y (some g)) : Dg w0 v xs g w Y :=
  ⟨hS, gr_far d.gr hg (fun k e => .inl (by injection e with e; exact e.symm)), d.lt⟩
/-- a change of blocks that are the drawing's own -/
theorem Dg.grown (d : Dg w0 v xs g w X) {row : Option Nat} (hg : X.grownBy Y row) (hr : ∀ k, row = some k → w.heap.size ≤ k) : Dg w0 v xs g w Y :=
  ⟨d.S.grown hg (fun k e => by have := hr k e; have := d.lt; have := d.S.lo; omega), gr_far d.gr hg (fun k e => .inr (hr k e)), d.lt⟩
theorem Dg.set (d : Dg w0 v xs g w X) {p : Addr} (hp : w.heap.size ≤ p.block) (u : Value) : Dg w0 v xs g w (X.setCell p u) :=
  d.grown (row := some p.block) ⟨rfl, rfl, rfl, by simp [World.setCell], fun i _ hne => Below.heap_setCell _ _ _ _ (fun e => hne (by rw [e]))⟩ (fun k e => by injection e with e; subst e; exact hp)
theorem Dg.size (d : Dg w0 v xs g w X) : w.heap.size ≤ X.heap.size := d.gr.size
theorem Dg.pass (d : Dg w0 v xs g w X) (h : Ow K e w.heap.size X u L) (hg : X.grownBy Y (some g)) : Ow K e w.heap.size Y u L := h.kept hg (by
  have := d.lt
  cases hv : u.ownBlock with
  | none => exact .inl rfl
  | some k => exact .inr (fun e => by injection e; have := h.block k hv; omega))
theorem Dg.made (d : Dg w0 v xs g w X) (h : Ow K e X.heap.size Y u L) : Ow K e w.heap.size Y u L := h.mono d.size
/-- an own block that a call with the source leaves as it is -/
theorem Dg.blk (d : Dg w0 v xs g w X) {b : Nat} {t : TypeId} {cs : Array Value} (h : Blk X b t cs) (hb : w.heap.size ≤ b) (hg : X.grownBy Y (some g)) : Blk Y b t cs :=
  h.grown hg (fun e => by injection e; have := d.lt; omega)
end
/- The reference's drawing functions of formulas, by the shape of what they draw (written by program, gendr.py). -/
/-- a list that reads, in memory from block B on -/
def Ro {α : Type} (K : Cod α) (B : Nat) (w : World) (u : Value) (L : List α) : Prop := Sl K w u L ∧ ∀ k, u.ownBlock = some k → B ≤ k ∧ k < w.heap.size
section
variable {α : Type} {K : Cod α} {e : TypeId} {B : Nat} {w X Y : World} {u : Value} {L : List α}
theorem Ow.ro (h : Ow K e B w u L) : Ro K B w u L := ⟨h.sl, h.block⟩
theorem Ro.below (h : Ro K B X u L) (hb : Below X.heap.size X Y) : Ro K B Y u L := ⟨h.1.below hb, fun k hk => ⟨(h.2 k hk).1, Nat.lt_of_lt_of_le (h.2 k hk).2 hb.size⟩⟩
theorem Ro.opn (h : Ro K B X u L) : ∃ A c, u = .slice A L.length c := h.1.opn
theorem Ro.mono {B' : Nat} (h : Ro K B X u L) (hB : B' ≤ B) : Ro K B' X u L := ⟨h.1, fun k hk => ⟨Nat.le_trans hB (h.2 k hk).1, (h.2 k hk).2⟩⟩
end
/- The reference's drawing functions of frames and models, by the shape of what they draw (written by program, gendr2.py). -/
section
variable {w0 : World} {v : Value} {xs : List (Fin 256)} {g : Nat} {w X Y : World} {α : Type} {K : Cod α} {e : TypeId} {u : Value} {L : List α} {B : Nat}
theorem Dg.passB (d : Dg w0 v xs g w X) (h : Ow K e B X u L) (hB : w.heap.size ≤ B) (hg : X.grownBy Y (some g)) : Ow K e B Y u L := h.kept hg (by
  have := d.lt
  cases hv : u.ownBlock with
  | none => exact .inl rfl
  | some k => exact .inr (fun e => by injection e; have := h.block k hv; omega))
end
/-- every world sees itself -/
def rfx (ns : List Nat) : List Nat := (List.range ns.length).map fun i => ns.getD i 0 ||| 2 ^ i
theorem rfx_length (ns : List Nat) : (rfx ns).length = ns.length := by simp [rfx]
theorem rfx_rel {ns : List Nat} (h : RelN ns) : RelN (rfx ns) := by
  refine ⟨by rw [rfx_length]; exact h.1, fun x hx => ?_⟩
  rw [rfx_length]
  unfold rfx at hx
  obtain ⟨i, hi, rfl⟩ := List.mem_map.1 hx
  exact Nat.or_lt_two_pow (getD_lt h.2 i) (Nat.pow_lt_pow_right (by decide) (List.mem_range.1 hi))
theorem clo_rel {ns : List Nat} (h : RelN ns) : RelN (clo ns ns.length) := ⟨by rw [clo_length]; exact h.1, by rw [clo_length]; exact clo_lt h.2 _⟩
theorem li_snoc (ns : List Nat) (x : Nat) : li (ns ++ [x]) = li ns ++ [(x : Int)] := by simp [li]
set_option maxRecDepth 100000 in
theorem spec_l01Reflexive (v : Value) (ns : List Nat) (w : World) (h : Sl cI w v (li ns)) (hr : RelN ns) :
    Calls Tryz.prog 169 #[v] w fun e w' => ∃ u, e = .returned u ∧ Ow cI 2 w.heap.size w' u (li (rfx ns)) ∧ Below w.heap.size w w' := by
  have h8 := hr.1
  have EL := li_length ns
  obtain ⟨A, c, rfl⟩ := h.opn
  rw [EL] at h ⊢
  have H0 := Lib.hid h
  have HR := Lib.hid hr
  have EL' := Lib.hid EL
  clear h hr EL
  go_enter Tryz.func169, Tryz.ntmps169
  go_wp2
  go_loopw [3, 4] (fun a i wr => ∃ j : Nat, j ≤ ns.length ∧ i = .int .i64 j ∧ Ow cI 2 w.heap.size wr a (li ((rfx ns).take j)) ∧ Below w.heap.size w wr) (fun _ i _ => ns.length - (intOf i).toNat)
  case atStart => exact ⟨0, Nat.zero_le _, rfl, Ow.lit [] rfl rfl (Nat.le_refl _), (Below.refl _ _).alloc (Nat.le_refl _) _⟩
  case round =>
    obtain ⟨j, hj, rfl, ho, hb⟩ := hrel
    obtain ⟨Ao, co, rfl⟩ := ho.opn
    have hlo : (li ((rfx ns).take j)).length = j := by rw [li_length, List.length_take, rfx_length]; omega
    rw [hlo] at ho ⊢
    have HO := Lib.hid ho
    have HB := Lib.hid hb
    have hsz := hb.size
    by_cases hlt : j < ns.length
    · obtain ⟨b, o, rfl, hbl, hc0⟩ := (H0.out.below hb).atI (k := j) (by rw [EL'.out]; exact hlt)
      rw [li_get] at hc0
      have hx := Nat.lt_of_lt_of_le (getD_lt HR.out.2 j) (two_pow_256 h8)
      have HT : Hid ((rfx ns).take (j + 1) = (rfx ns).take j ++ [ns.getD j 0 ||| 2 ^ j]) := Lib.hid (by
        rw [List.take_succ_eq_append_getElem (by rw [rfx_length]; exact hlt)]
        congr 2
        simp [rfx])
      have hp := two_pow_256 (show j ≤ 8 by omega)
      obtain ⟨y, hy⟩ : ∃ y, y = 2 ^ j := ⟨_, rfl⟩
      have hy256 : y ≤ 256 := by rw [hy]; exact hp
      have ey : (2 : Int) ^ j = (y : Int) := by rw [hy]; exact cast_two_pow j
      rw [← hy] at HT
      have HY := Lib.hid ey
      generalize ns.getD j 0 = x at *
      have eo := i64_or_nat x y (by omega) (by omega)
      have HE := Lib.hid eo
      clear hy ho hb hlo hp ey eo EL'
      have hI : wr.drew.cell? ⟨b, o + j, none⟩ = some (.int .i64 (x : Int)) := hc0
      go_upto_region 5 with fail
      refine wp_region_sched (fun X => X.cell? ⟨b, o + j, none⟩ = some (.int .i64 (x : Int))) 9 [0, 1, 2, 3, 4, 5, 7] [0, 1, 2, 3, 4, 5, 6, 7, 8] (by kernel_rfl) (by kernel_rfl) hI ?_
      repeat
        apply wpSched_q rfl rfl
        case h =>
          intro w' hI K hK
          have cc : w'.cell? ⟨b, o + j, none⟩ = some (.int .i64 (x : Int)) := hI
          simp only [quietV, stillV]
          go_simp
          exact hK
        go_simp
      refine wpSched_r rfl rfl ?_ hI
      intro K hK _
      go_simp
      refine (spec_l01One _ _ (by omega) (by omega)).mono ?_
      rintro e w1 ⟨rfl, rfl⟩
      rw [Int.toNat_natCast, HY.out]
      refine hK _ _ hI ?_
      clear hK K
      repeat
        apply wpSched_q rfl rfl
        case h =>
          intro w' hI K hK
          have cc : w'.cell? ⟨b, o + j, none⟩ = some (.int .i64 (x : Int)) := hI
          simp only [quietV, stillV]
          go_simp
          exact hK
        go_simp
      rw [HE.out]
      refine wpSched_r rfl rfl ?_ hI
      intro K hK _
      go_simp
      refine hK _ _ (by exact (Below.refl _ _).alloc (Nat.le_refl _) _ |>.cell (p := ⟨b, o + j, none⟩) hbl |>.trans hc0) ?_
      clear hK K
      refine wpSched_nil ?_
      try simp only [List.drop_succ_cons, List.drop_zero, List.drop_nil]
      change wpList _ _ _ _ _ (World.alloc wr.drew _)
      refine ap_one (K := cI) wr.drew ty_int64 rfl _ _ rfl (B := w.heap.size) (v := .slice Ao j co) (xs := li ((rfx ns).take j)) rfl (HO.out.below (Below.refl _ _).drew) ((x ||| y : Nat) : Int) rfl rfl (by rw [li_length, List.length_take, rfx_length]; omega) hsz ?_
      intro v1 w9 ho1 hg1 hb1 hat1
      rw [← li_snoc, ← HT.out] at ho1
      have HO1 := Lib.hid ho1
      have HB1 := Lib.hid (HB.out.drew.trans (hb1.mono (Nat.le_refl _)))
      obtain ⟨A9, c9, hv9⟩ := ho1.opn
      subst hv9
      clear ho1 hg1 hb1 hat1 hI hc0 HO HB HE HY HT
      go_wp2
      go_roundw
      case rel => exact ⟨j + 1, by omega, by go_num, HO1.out, HB1.out⟩
      case measure => simp [intOf]; omega
    · obtain rfl : j = ns.length := by omega
      rw [show (rfx ns).take ns.length = rfx ns from List.take_of_length_le (by rw [rfx_length]; exact Nat.le_refl _)] at HO
      clear ho hlo
      go_wp2
      go_ret
      exact ⟨_, rfl, HO.out, HB.out⟩
/- The reference's drawing functions of frames and models, by the shape of what they draw (written by program, gendr2.py). -/
end Go.Proofs.YtgkogfjifcfkoaaGreat
