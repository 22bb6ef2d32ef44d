/- Joined of several texts: 14F, 14G, 14H, 14I. -/
import Derived.Test.YtboldkahppdmbaaGreatDoorAY
import Derived.Test.YtboldkahppdmbaaGreatDoorQU
import Derived.Test.YtboldkahppdmbaaGreatDoorJM14
import Derived.Test.YtboldkahppdmbaaGreatDoorRel
import Derived.Test.YtboldkahppdmbaaGreatDoorJ05
import Derived.Test.YtboldkahppdmbaaGreatDoorSch
import Derived.Deep.RegionLaw
namespace Go.Proofs.YtboldkahppdmbaaGreatDoor
open Go.RowKit
set_option linter.unusedVariables false
set_option linter.unusedSimpArgs false
/- Contracts of chapter 14: FiltrationModel, of the program. -/
def mkzF (n : Nat) : Array Value := (List.replicate n (Value.int .i64 0)).toArray
theorem mkzF_flat (n : Nat) : flat cI (List.replicate n 0) = (mkzF n).toList := by rw [flat_cI]; unfold mkzF; rw [List.map_replicate]
theorem run_mkzF (n : Nat) (h : n ≤ 1048576) (w : World) :
    (Instr.makeSlice 24 (.int .i64 (n : Int)) (.int .i64 (n : Int))).run Tryz.prog w = .ok (.slice (some ⟨w.heap.size, 0, none⟩) n n) (w.alloc (.cells (mkzF n) 2)) := by
  obtain ⟨i, hi, hz, hsize, hby⟩ := ty_int64.info
  have := run_make (P := Tryz.prog) w 24 2 i _ ty_int64.under hi hz .i64 .i64 (n : Int) (n : Int) (by omega) (Int.le_refl _) (by rw [hby]; omega) (by omega)
  have e : madeCells (Value.int .i64 0).cells ((n : Int).toNat * i.size) = mkzF n := by
    rw [hsize, Int.toNat_natCast, Nat.mul_one]
    apply Array.ext (by simp [madeCells, mkzF])
    intro j h1 h2
    simp [madeCells, mkzF, Value.cells, Nat.mod_one]
  rw [this, e, Int.toNat_natCast]
theorem Ow.mkzF {B : Nat} (w : World) (n g : Nat) (hg : g = w.heap.size) (hB : B ≤ g) (h : n ≤ 1048576) : Ow cI 2 B (w.alloc (.cells (mkzF n) 2)) (.slice (some ⟨g, 0, none⟩) n n) (List.replicate n 0) :=
  Ow.lit' (List.replicate n (0 : Int)) hg (by simp) (mkzF_flat n) hB (by simp; omega)
theorem Ow.raise {α : Type} {K : Cod α} {e : TypeId} {B B' : Nat} {w : World} {v : Value} {xs : List α} (h : Ow K e B w v xs) (hk : ∀ k, v.ownBlock = some k → B' ≤ k) : Ow K e B' w v xs := by
  obtain ⟨hv, h1, h2⟩ := h
  refine ⟨hv, h1, ?_⟩
  rcases h2 with h2 | ⟨g, cap, cur, hg, hB, hr⟩
  · exact .inl h2
  · exact .inr ⟨g, cap, cur, hg, hk g (by rw [hg]; rfl), hr⟩
/-- a model that is being made: its box and its two lists, in memory of their own -/
structure MB (B n g gv : Nat) (u1 : Value) (O V : List Int) (w X : World) : Prop where
  blk : Blk X g 28 #[.int .i64 n, u1, .slice (some ⟨gv, 0, none⟩) 6 6]
  o1 : Ow cI 2 B X u1 O
  o2 : Ow cI 2 B X (.slice (some ⟨gv, 0, none⟩) 6 6) V
  gB : B ≤ g
  ne : g ≠ gv
  n1 : u1.ownBlock ≠ some gv
  n2 : u1.ownBlock ≠ some g
  be : Below B w X
theorem MB.below {B n g gv : Nat} {u1 : Value} {O V : List Int} {w X Y : World} (h : MB B n g gv u1 O V w X) (hb : Below X.heap.size X Y) (hB : B ≤ X.heap.size) : MB B n g gv u1 O V w Y :=
  ⟨h.blk.below hb h.blk.lt, h.o1.below hb, h.o2.below hb, h.gB, h.ne, h.n1, h.n2, h.be.trans (hb.mono hB)⟩
theorem MB.set {B n g gv : Nat} {u1 : Value} {O V : List Int} {w X : World} (h : MB B n g gv u1 O V w X) (p : Nat) (y : Int) (hp : p < V.length) : MB B n g gv u1 O (V.set p y) w (X.setCell ⟨gv, p, none⟩ (.int .i64 y)) :=
  ⟨h.blk.far h.ne _, h.o1.far h.n1 _, h.o2.set1 rfl rfl hp, h.gB, h.ne, h.n1, h.n2, h.be.setCell (h.o2.block gv rfl).1 _⟩
theorem drew_size (w : World) : w.drew.heap.size = w.heap.size := rfl
theorem al_size (w : World) (O : Obj) : (w.alloc O).heap.size = w.heap.size + 1 := by simp
abbrev zM : Obj := .cells #[.int .i64 0, .slice none 0 0, .slice none 0 0] 28
theorem bz1 {X Y : World} (hb : Below (X.alloc zM).heap.size (X.alloc zM) Y) : Blk Y X.heap.size 28 #[.int .i64 0, .slice none 0 0, .slice none 0 0] := (Blk.new X 28 #[.int .i64 0, .slice none 0 0, .slice none 0 0]).below hb (by simp)
theorem bz2 {X Y : World} {O : Obj} (hb : Below ((X.alloc zM).alloc O).heap.size ((X.alloc zM).alloc O) Y) : Blk Y X.heap.size 28 #[.int .i64 0, .slice none 0 0, .slice none 0 0] := ((Blk.new X 28 #[.int .i64 0, .slice none 0 0, .slice none 0 0]).below (below_alloc' _ O) (by simp)).below hb (by simp; omega)
theorem bz3 {X Y : World} {O : Obj} (hb : Below ((X.alloc O).alloc zM).heap.size ((X.alloc O).alloc zM) Y) : Blk Y (X.heap.size + 1) 28 #[.int .i64 0, .slice none 0 0, .slice none 0 0] := (Blk.new' (X.alloc O) 28 #[.int .i64 0, .slice none 0 0, .slice none 0 0] (by simp)).below hb (by simp)
abbrev zK : Obj := .cells (mkzF 6) 2
theorem km1 {B : Nat} {X Y : World} (hb : Below (X.alloc zK).heap.size (X.alloc zK) Y) (hB : B ≤ X.heap.size) : Ow cI 2 B Y (.slice (some ⟨X.heap.size, 0, none⟩) 6 6) (List.replicate 6 0) := (Ow.mkzF X 6 _ rfl hB (by omega)).below hb
theorem km2 {B : Nat} {X Y : World} {O : Obj} (hb : Below ((X.alloc O).alloc zK).heap.size ((X.alloc O).alloc zK) Y) (hB : B ≤ X.heap.size) : Ow cI 2 B Y (.slice (some ⟨X.heap.size + 1, 0, none⟩) 6 6) (List.replicate 6 0) := (Ow.mkzF (X.alloc O) 6 _ (by simp) (by omega) (by omega)).below hb
theorem km3 {B : Nat} {X Y : World} {O : Obj} (hb : Below ((X.alloc zK).alloc O).heap.size ((X.alloc zK).alloc O) Y) (hB : B ≤ X.heap.size) : Ow cI 2 B Y (.slice (some ⟨X.heap.size, 0, none⟩) 6 6) (List.replicate 6 0) := ((Ow.mkzF X 6 _ rfl hB (by omega)).alloc O).below hb
theorem MB.fin {B n g gv : Nat} {u1 : Value} {O V : List Int} {w Z : World} {x y z : Value} (hk : Blk Z g 28 #[x, y, z]) (o1 : Ow cI 2 B Z u1 O) (o2 : Ow cI 2 B Z (.slice (some ⟨gv, 0, none⟩) 6 6) V) (gB : B ≤ g) (ne : g ≠ gv) (n1 : u1.ownBlock ≠ some gv) (n2 : u1.ownBlock ≠ some g) (be : Below B w Z) :
    MB B n g gv u1 O V w (((Z.setCell ⟨g, 0, none⟩ (.int .i64 n)).setCell ⟨g, 1, none⟩ u1).setCell ⟨g, 2, none⟩ (.slice (some ⟨gv, 0, none⟩) 6 6)) :=
  ⟨((hk.set_ 0 _).set_ 1 _).set_ 2 _, ((o1.far n2 _).far n2 _).far n2 _, ((o2.far (fun h => ne (Option.some.inj h).symm) _).far (fun h => ne (Option.some.inj h).symm) _).far (fun h => ne (Option.some.inj h).symm) _, gB, ne, n1, n2, ((be.setCell gB _).setCell gB _).setCell gB _⟩
set_option maxHeartbeats 2000000 in
set_option maxRecDepth 100000 in
theorem impl_FiltrationModel_ok (ns us gs : List Nat) (f : Fm) (A0 A1 A4 : Option Addr) (c0 c1 c4 : Nat) (v : Value) (w : World) (hm : Mdl w (.slice A0 ns.length c0) (.slice A1 6 c1) ns us) (h1 : MdN ns us) (h : Sl cN w v (enc f)) (hok : f.ok = true) (hl : (enc f).length ≤ 40) (hmk : mdOk ns.length (li ns) (li us) = true) (hfk : isF (enc f) = true) (hg : Sl cI w (.slice A4 gs.length c4) (li gs)) (hgr : RelN gs) (hfr : frOk gs.length (li gs) = true) (his : isf ns us f gs = true) :
    Calls Tryz.prog 6 #[.agg #[.int .i64 ns.length, .slice A0 ns.length c0, .slice A1 6 c1], v, .agg #[.int .i64 gs.length, .slice A4 gs.length c4]] w fun e w' => ∃ u1 u2, e = .returned (.tuple #[.agg #[.int .i64 gs.length, u1, u2], .int .i64 0]) ∧ Ow cI 2 w.heap.size w' u1 (li gs) ∧ Ow cI 2 w.heap.size w' u2 (li (fmv ns us f)) ∧ (∀ k, u2.ownBlock = some k → u1.ownBlock ≠ some k) ∧ Below w.heap.size w w' := by
  obtain ⟨Af, cf, rfl⟩ := h.opn
  have hb0 := below_alloc' w (.cells #[.int .i64 ns.length, .slice A0 ns.length c0, .slice A1 6 c1] 28)
  have hk0 := Blk.new w 28 #[.int .i64 ns.length, .slice A0 ns.length c0, .slice A1 6 c1]
  have hb1 := below_alloc' (w.alloc (.cells #[.int .i64 ns.length, .slice A0 ns.length c0, .slice A1 6 c1] 28)) (.cells #[.int .i64 gs.length, .slice A4 gs.length c4] 26)
  have hk1 : Blk _ (w.heap.size + 1) _ _ := Blk.new' (w.alloc (.cells #[.int .i64 ns.length, .slice A0 ns.length c0, .slice A1 6 c1] 28)) 26 #[.int .i64 gs.length, .slice A4 gs.length c4] (by simp)
  have hb2 := below_alloc' ((w.alloc (.cells #[.int .i64 ns.length, .slice A0 ns.length c0, .slice A1 6 c1] 28)).alloc (.cells #[.int .i64 gs.length, .slice A4 gs.length c4] 26)) (.cells #[.int .i64 0, .slice none 0 0, .slice none 0 0] 28)
  have hk2 : Blk _ (w.heap.size + 2) _ _ := Blk.new' ((w.alloc (.cells #[.int .i64 ns.length, .slice A0 ns.length c0, .slice A1 6 c1] 28)).alloc (.cells #[.int .i64 gs.length, .slice A4 gs.length c4] 26)) 28 #[.int .i64 0, .slice none 0 0, .slice none 0 0] (by simp)
  have HB := Lib.hid (bthen (bthen hb0 hb1) hb2)
  have HK0 := Lib.hid ((hk0.below hb1 hk0.lt).below hb2 (hk0.below hb1 hk0.lt).lt)
  have HK1 := Lib.hid (hk1.below hb2 hk1.lt)
  have HK2 := Lib.hid hk2
  have HM := Lib.hid hm
  have H1 := Lib.hid h1
  have HG := Lib.hid hg
  have HGR := Lib.hid hgr
  have E1 := Lib.hid (li_length ns)
  have E2 := Lib.hid (show (li us).length = 6 by rw [li_length, h1.l])
  have E4 := Lib.hid (li_length gs)
  have HX : Hid (fcode ns.length (li ns) (li us) (enc f) = 0) := Lib.hid (by unfold fcode; rw [hmk, hfk]; rfl)
  have HC := Lib.hid (fun W (hW : Below w.heap.size w W) => HX.out ▸ impl_modelCode ns.length _ _ _ (li ns) (li us) (enc f) W (hm.a.below hW) (hm.u.below hW) (h.below hW) (by rw [E1.out]; have := h1.r.1; omega) (by rw [E2.out]; omega) (by omega))
  have HFR := Lib.hid (fun W (hW : Below w.heap.size w W) => hfr ▸ impl_isFrame gs.length _ (li gs) W (hg.below hW) (by rw [E4.out]; have := hgr.1; omega))
  have HN := Lib.hid (fun W (hW : Below w.heap.size w W) => impl_newFilter ns us f A0 A1 c0 c1 _ W (hm.below hW) h1 (h.below hW) hok hl)
  have HIS := Lib.hid (fun F A cc bx dm W (hF : Fil W F ns us f A0 A1 A c0 c1 cc (.slice Af (enc f).length cf) bx dm) (hW : Below w.heap.size w W) => his ▸ impl_isFiltration ns us gs f F A0 A1 A A4 c0 c1 cc c4 _ bx dm W hF h1 (by omega) (hg.below hW) hgr)
  have HCl := Lib.hid (fun W (hW : Below w.heap.size w W) => slices_Clone_int64 _ (li gs) W (hg.below hW) (by rw [E4.out]; have := hgr.1; omega))
  have HFo := Lib.hid (fun A c W (hW : Sl cI W (.slice A gs.length c) (li gs)) => impl_frameOf (.slice A gs.length c) _ W hW)
  rw [E4.out] at HFo
  have HV := Lib.hid h
  have HL := Lib.hid hl
  have HFK := Lib.hid hfk
  clear hb0 hb1 hk0 hk1 hb2 hk2 hm h hmk hfk h1 hl hg hgr hfr his
  go_enter Tryz.func6, Tryz.ntmps6
  go_upto_region 1 with fail
  generalize World.alloc (World.alloc (w.alloc _) _) _ = W at *
  have k0 := HK0.out.cell
  have l0 := HK0.out.lt
  go_wp2_with fail
  refine (HC.out _ HB.out).mono ?_
  rintro e w1 ⟨rfl, hb⟩
  have HB1 := Lib.hid (bthen HB.out hb)
  have HKa0 := Lib.hid (HK0.out.below hb l0)
  have HKa1 := Lib.hid (HK1.out.below hb HK1.out.lt)
  have HKa2 := Lib.hid (HK2.out.below hb HK2.out.lt)
  clear hb k0 l0 HK0 HK1 HK2 HB HC
  have k1 := HKa1.out.cell
  have l1 := HKa1.out.lt
  go_wp2_with fail
  refine (HFR.out _ HB1.out).mono ?_
  rintro e w2 ⟨rfl, hb⟩
  have HB2 := Lib.hid (bthen HB1.out hb)
  have HKb0 := Lib.hid (HKa0.out.below hb HKa0.out.lt)
  have HKb1 := Lib.hid (HKa1.out.below hb HKa1.out.lt)
  have HKb2 := Lib.hid (HKa2.out.below hb HKa2.out.lt)
  clear hb k1 l1 HKa0 HKa1 HKa2 HB1 HFR
  have k0 := HKb0.out.cell
  have l0 := HKb0.out.lt
  go_wp2_with fail
  refine (HN.out _ HB2.out).mono ?_
  rintro e w3 ⟨F, A, cc, bx, dm, rfl, hF, hbl, ho, hbx, hdm, hb⟩
  have HB3 := Lib.hid (bthen HB2.out hb)
  have HFil : Hid (Fil w3 F ns us f A0 A1 A c0 c1 cc (.slice Af (enc f).length cf) bx dm) := Lib.hid ⟨hbl, HM.out.below HB3.out, ho.sl, hbx, hdm⟩
  have HKc0 := Lib.hid (HKb0.out.below hb HKb0.out.lt)
  have HKc1 := Lib.hid (HKb1.out.below hb HKb1.out.lt)
  have HKc2 := Lib.hid (HKb2.out.below hb HKb2.out.lt)
  clear hb k0 l0 ho hbl hbx hdm HKb0 HKb1 HKb2 HB2 HN
  have k1 := HKc1.out.cell
  have l1 := HKc1.out.lt
  go_wp2_with fail
  refine (HIS.out _ _ _ _ _ _ HFil.out HB3.out).mono ?_
  rintro e w4 ⟨rfl, hb⟩
  have HB4 := Lib.hid (bthen HB3.out hb)
  have HFi4 := Lib.hid (HFil.out.below hb)
  have HKd0 := Lib.hid (HKc0.out.below hb HKc0.out.lt)
  have HKd1 := Lib.hid (HKc1.out.below hb HKc1.out.lt)
  have HKd2 := Lib.hid (HKc2.out.below hb HKc2.out.lt)
  clear hb k1 l1 HKc0 HKc1 HKc2 HB3 HFil HIS
  go_upto_region 6 with fail
  have k1 : w4.cell? ⟨w.heap.size + 1, 1, none⟩ = some (.slice A4 gs.length c4) := HKd1.out.cell 1
  have l1 := HKd1.out.lt
  go_cut [9] (fun p X => ∃ g gv u1, p = .pointer (some ⟨g, 0, none⟩) ∧ MB w4.heap.size gs.length g gv u1 (li gs) (List.replicate 6 0) w4 X)
  case first =>
    have HR : ∀ w : World, (Instr.makeSlice 24 (.int .i64 6) (.int .i64 6)).run Tryz.prog w = .ok (.slice (some ⟨w.heap.size, 0, none⟩) 6 6) (w.alloc (.cells (mkzF 6) 2)) := fun w => run_mkzF 6 (by omega) w
    have hbd : Below w.heap.size w w4 := HB4.out
    refine wp_region_rely (Below w4.heap.size w4) [fun _ v _ => v = .pointer (some ⟨w.heap.size + 1, 1, none⟩), fun _ v _ => v = .slice A4 gs.length c4,
      fun _ v X => ∃ A c, v = .slice A gs.length c ∧ Ow cI 2 w4.heap.size X (.slice A gs.length c) (li gs),
      fun _ v X => ∃ A c, v = .agg #[.int .i64 gs.length, .slice A gs.length c] ∧ Ow cI 2 w4.heap.size X (.slice A gs.length c) (li gs),
      fun _ v X => ∃ g, v = .slice (some ⟨g, 0, none⟩) 6 6 ∧ Ow cI 2 w4.heap.size X (.slice (some ⟨g, 0, none⟩) 6 6) (List.replicate 6 0),
      fun q v _ => ∀ n u y, q = [.agg #[n, u], y] → v = .agg #[n, u, y],
      fun _ v X => ∃ g, v = .pointer (some ⟨g, 0, none⟩) ∧ w4.heap.size ≤ g ∧ Blk X g 28 #[.int .i64 0, .slice none 0 0, .slice none 0 0]]
      [none, none, some 2, some 2, some 4, none, some 6]
      [(some 30, []), (some 31, [(0, some 30)]), (some 32, [(1, some 31)]), (some 33, [(2, some 32)]), (some 34, []), (some 35, [(3, some 33), (4, some 34)]), (some 9, [])] 60
      (by kernel_rfl) (by kernel_rfl) rfl ((Below.refl _ _).drew) (fun X Y h hb => h.trans (hb.mono h.size)) ?st ?en
    case st =>
      refine stepsR_cons ?_ (stepsR_cons ?_ (stepsR_cons ?_ (stepsR_cons ?_ (stepsR_cons ?_ (stepsR_cons ?_ (stepsR_cons ?_ stepsR_nil))))))
      · intro X hX
        refine stepR_of rfl ?_
        intro K hK
        go_simp
        exact hK _ _ (Below.refl _ _) rfl (fun h => absurd rfl h) rfl
      · intro X hX v0 f0
        obtain ⟨q0, X0, hX0, rfl⟩ := f0
        have k1' := (hX.cell (p := ⟨w.heap.size + 1, 1, none⟩) l1).trans k1
        refine stepR_of rfl ?_
        intro K hK
        go_simp
        exact hK _ _ (Below.refl _ _) rfl (fun h => absurd rfl h) rfl
      · intro X hX v1 f1
        obtain ⟨q0, X0, hX0, rfl⟩ := f1
        refine stepR_of rfl ?_
        intro K hK
        go_simp
        refine (HCl.out X (hbd.trans (hX.mono hbd.size))).mono ?_
        rintro e X5 ⟨u1, rfl, ho, hb⟩
        obtain ⟨A, c, rfl⟩ := ho.opn
        rw [E4.out] at ho ⊢
        exact hK _ _ hb ⟨A, c, rfl, ho.mono hX.size⟩ (fun _ k hk => ⟨(ho.block k (blks_own hk)).2, .inl (ho.block k (blks_own hk)).1⟩) rfl
      · intro X hX v1 f1
        obtain ⟨q0, X0, hX0, A, c, rfl, ho⟩ := f1
        have ho' := ho.below hX0
        refine stepR_of rfl ?_
        intro K hK
        go_simp
        refine (HFo.out A c X ho'.sl).mono ?_
        rintro e X6 ⟨rfl, hb⟩
        exact hK _ _ hb ⟨A, c, rfl, ho'.below hb⟩ (fun _ k hk => ⟨Nat.lt_of_lt_of_le (ho'.block k (blks_own (blks_agg_i.1 hk))).2 hb.size, .inr (List.mem_append_left _ (blks_agg_i.1 hk))⟩) rfl
      · intro X hX
        refine stepR_of rfl ?_
        intro K hK
        go_simp
        exact hK _ _ (below_alloc' X _) ⟨X.heap.size, rfl, Ow.mkzF X 6 _ rfl hX.size (by omega)⟩ (fun _ k hk => by have := Option.some.inj (blks_own hk); subst this; exact ⟨by simp, .inl (Nat.le_refl _)⟩) rfl
      · intro X hX v1 f1 v2 f2
        obtain ⟨q0, X0, hX0, A, c, rfl, ho⟩ := f1
        obtain ⟨q1, X1, hX1, g, rfl, ho1⟩ := f2
        refine stepR_of rfl ?_
        intro K hK
        go_simp
        refine hK _ _ (Below.refl _ _) (fun n u y h => ?_) (fun h => absurd rfl h) rfl
        simp only [List.nil_append, List.cons_append, List.cons.injEq, Value.agg.injEq, Array.mk.injEq, and_true] at h
        obtain ⟨⟨rfl, rfl⟩, rfl⟩ := h
        rfl
      · intro X hX
        refine stepR_of rfl ?_
        intro K hK
        go_simp
        exact hK _ _ (below_alloc' X _) ⟨X.heap.size, rfl, hX.size, Blk.new X _ _⟩ (fun _ k hk => by have := blks_ptr hk; subst this; exact ⟨by simp, .inl (Nat.le_refl _)⟩) rfl
    case en =>
      intro X hX v0 f0 v1 f1 v2 f2 v3 f3 v4 f4 v5 f5 v6 f6 hsep
      obtain ⟨X3, hX3, A, c, rfl, ho3⟩ := f3
      obtain ⟨X4, hX4, g4, rfl, ho4⟩ := f4
      obtain ⟨X5, hX5, h5⟩ := f5
      obtain rfl := h5 _ _ _ rfl
      obtain ⟨X6, hX6, g, rfl, hg, hk⟩ := f6
      have ne : g ≠ g4 := fun e => hsep.get 4 6 rfl rfl (by decide) (own_blks rfl) (by rw [← e]; exact ptr_blks _)
      have n1 : (Value.slice A gs.length c).ownBlock ≠ some g4 := fun e => hsep.get 3 4 rfl rfl (by decide) (blks_agg_i.2 (own_blks e)) (own_blks rfl)
      have n2 : (Value.slice A gs.length c).ownBlock ≠ some g := fun e => hsep.get 3 6 rfl rfl (by decide) (blks_agg_i.2 (own_blks e)) (ptr_blks _)
      have kb := hk.below hX6 hk.lt
      have Y := Lib.hid (MB.fin (n := gs.length) kb (ho3.below hX3) (ho4.below hX4) hg ne n1 n2 hX)
      have kc := kb.cell
      have kf := kb.frozen
      have kl := kb.lt
      clear hsep h5 ho3 ho4 hk kb
      go_wp2_with fail
      go_meet
      exact ⟨g, g4, _, rfl, Y.out⟩
  case rest =>
    obtain ⟨g, gv, u1, rfl, hMB⟩ := hcut
    obtain ⟨Au, cu, rfl⟩ := hMB.o1.opn
    rw [E4.out] at hMB
    have HV6 := Lib.hid (show vmask (enc f) < 2 ^ 6 from vmask_lt (enc f) (enc_nodes f hok))
    have HMM := Lib.hid (fun x (hx : x ∈ mems (vmask (enc f))) => mems_mem (n := 6) HV6.out hx)
    have HM6 := Lib.hid (show (mems (vmask (enc f))).length ≤ 64 from memsTo_length _ 64)
    have HZ0 : Hid (List.replicate 6 (0 : Int) = li (vset (mems (vmask (enc f))) (fmI ns us f) 0)) := Lib.hid rfl
    have HST : Hid (∀ j, vset (mems (vmask (enc f))) (fmI ns us f) (j + 1) = (vset (mems (vmask (enc f))) (fmI ns us f) j).set ((mems (vmask (enc f))).getD j 0).toNat (fmI ns us f ((mems (vmask (enc f))).getD j 0).toNat)) := Lib.hid fun j => rfl
    have HVL : Hid (∀ j, (li (vset (mems (vmask (enc f))) (fmI ns us f) j)).length = 6) := Lib.hid (fun j => by rw [li_length, vset_length])
    have HVE : Hid (vset (mems (vmask (enc f))) (fmI ns us f) (mems (vmask (enc f))).length = fmv ns us f) := Lib.hid (fmv_I ns us f H1.out.b)
    have HIM := Lib.hid (fun X (y : Nat) (hX : Below w4.heap.size w4 X) => impl_mapMask (.slice A ns.length cc) (acl ns us f) (us.getD y 0) X (HFi4.out.cl.below hX) (by rw [acl_length]; exact H1.out.r.1) (fun c hc => Nat.lt_of_lt_of_le (acl_lt ns us f c hc) (Nat.le_trans (acn_le ns us f) H1.out.r.1)) (by rw [acl_length]; exact getD_lt H1.out.b y))
    have HVI := Lib.hid (fun X (hX : Below w.heap.size w X) => impl_variablesIn _ [enc f] _ (Sl2.one (HV.out.below hX) 29) (by simp) (by intro x hx; rw [List.mem_singleton.1 hx]; exact HFK.out))
    have hvm : vmasks [enc f] = vmask (enc f) := by simp [vmasks]
    rw [hvm] at HVI
    have HMB := Lib.hid hMB
    have hcb := bthen HB4.out hMB.be
    clear hMB hvm k1 l1
    go_wp2_with fail
    refine (HVI.out wc hcb).mono ?_
    rintro e w5 ⟨um, rfl, hom, hb⟩
    obtain ⟨Am, cm, rfl⟩ := hom.opn
    have hba := below_alloc' wc (.cells #[.slice Af (enc f).length cf] 29)
    have hbb := hba.trans (hb.mono hba.size)
    have HMB5 := Lib.hid (HMB.out.below hbb HMB.out.be.size)
    have HOM := Lib.hid (hom.mono (show gv + 1 ≤ _ by have := (HMB.out.o2.block gv rfl).2; rw [size_alloc']; omega))
    clear hom hb hba hbb hcb HMB HVI
    generalize mems (vmask (enc f)) = ms at *
    have hm64 := HM6.out
    go_wp2
    go_loopw [40] (fun i wr => ∃ j : Nat, j ≤ ms.length ∧ i = .int .i64 j ∧ MB w4.heap.size gs.length g gv (.slice Au gs.length cu) (li gs) (li (vset ms (fmI ns us f) j)) w4 wr ∧ Ow cI 2 (gv + 1) wr (.slice Am ms.length cm) ms) (fun i _ => ms.length - (intOf i).toNat)
    case atStart => exact ⟨0, Nat.zero_le _, rfl, HMB5.out, HOM.out⟩
    case round =>
      obtain ⟨j, hj, rfl, hs, hsm⟩ := hrel
      have HS := Lib.hid hs
      have HSM := Lib.hid hsm
      have HBo := Lib.hid (bthen HB4.out hs.be)
      by_cases hlt : j < ms.length
      · obtain ⟨y, hxx, hyn⟩ := HMM.out ms[j] (List.getElem_mem hlt)
        have hgd : (ms.getD j 0).toNat = y := by rw [List.getD_eq_getElem?_getD, List.getElem?_eq_getElem hlt, Option.getD_some, hxx, Int.toNat_natCast]
        have hse := HST.out j
        rw [hgd] at hse
        have hbe := hs.be
        obtain ⟨b6, o6, hA6, t6, f6⟩ := hsm.sl.atI hlt
        rw [hxx] at f6
        obtain ⟨b1, o1, hA1, t1, f1⟩ := (show Sl cI wr (.slice A1 (li us).length c1) (li us) by rw [E2.out]; exact HM.out.u.below (bthen HB4.out hbe)).atI (k := y) (by rw [E2.out]; exact hyn)
        rw [li_get] at f1
        have kv : wr.cell? ⟨g, 2, none⟩ = some (.slice (some ⟨gv, 0, none⟩) 6 6) := hs.blk.cell 2
        have lg := hs.blk.lt
        have kc : wr.cell? ⟨F, 4, none⟩ = some (.slice A ns.length cc) := (HFi4.out.bl.below hbe HFi4.out.bl.lt).cell 4
        have lF := (HFi4.out.bl.below hbe HFi4.out.bl.lt).lt
        have km : wr.cell? ⟨w.heap.size, 2, none⟩ = some (.slice A1 6 c1) := (HKd0.out.below hbe HKd0.out.lt).cell 2
        have l0 := (HKd0.out.below hbe HKd0.out.lt).lt
        have hIy := HIM.out
        obtain ⟨m, hmm⟩ : ∃ m, us.getD y 0 = m := ⟨_, rfl⟩
        obtain ⟨z, hzz⟩ : ∃ z, img (pw (acl ns us f)) m = z := ⟨_, rfl⟩
        have HIY : Hid (∀ X, Below w4.heap.size w4 X → Calls Tryz.prog 27 #[.slice A ns.length cc, .int .i64 m] X fun e w' => e = .returned (.int .i64 z) ∧ Below X.heap.size X w') := Lib.hid (fun X hX => by
          have := hIy X y hX
          rwa [hmm, hzz] at this)
        have hfz : fmI ns us f y = z := by unfold fmI; rw [hmm, hzz]
        rw [hfz] at hse
        have HSE := Lib.hid hse
        rw [hmm] at f1
        have hl6 : (li (vset ms (fmI ns us f) j)).length = 6 := HVL.out j
        have HL6 := Lib.hid hl6
        have hg1 := hs.o2.at1 (j := y) rfl (by rw [hl6]; exact hyn) rfl
        obtain ⟨g1, g2, g3, g4⟩ := hg1
        obtain ⟨uo, g1'⟩ : ∃ uo, wr.cell? ⟨gv, y, none⟩ = some uo := ⟨_, g1⟩
        have HRE : Hid (∀ X, Below wr.heap.size wr X → MB w4.heap.size gs.length g gv (.slice Au gs.length cu) (li gs) (li (vset ms (fmI ns us f) (j + 1))) w4 (X.setCell ⟨gv, y, none⟩ (.int .i64 z)) ∧ Ow cI 2 (gv + 1) (X.setCell ⟨gv, y, none⟩ (.int .i64 z)) (.slice Am ms.length cm) ms) := Lib.hid (fun X hX => by
          have q := (hs.below hX hbe.size).set y (z : Int) (by rw [hl6]; exact hyn)
          rw [hse, ← li_set]
          exact ⟨q, (hsm.below hX).setBelow (p := ⟨gv, y, none⟩) (Nat.lt_succ_self _) _⟩)
        clear hs hsm hse hgd hmm hzz hfz hIy g1 hl6
        have hyi : (y : Int) < 6 := by omega
        have hji : (j : Int) < (ms.length : Int) := by omega
        subst hA6
        subst hA1
        have hI := (Below.refl wr.heap.size wr).drew
        go_upto_region 10 with fail
        refine wp_region_sched (Below wr.heap.size wr) 14 [0, 1, 2, 3, 4, 5, 6, 7, 8, 9, 10, 11, 13] (List.range 14) (by kernel_rfl) (by kernel_rfl) hI ?_
        repeat
          apply wpSched_q rfl rfl
          case h =>
            intro w' hI K hK
            have kv' := (hI.cell (p := ⟨g, 2, none⟩) lg).trans kv
            have kc' := (hI.cell (p := ⟨F, 4, none⟩) lF).trans kc
            have km' := (hI.cell (p := ⟨w.heap.size, 2, none⟩) l0).trans km
            have f1' := (hI.cell (p := ⟨b1, o1 + y, none⟩) t1).trans f1
            simp only [quietV, stillV]
            go_simp
            exact hK
          go_simp
        refine wpSched_r rfl rfl ?_ hI
        intro K hK _
        go_simp
        refine (HIY.out _ (hbe.trans (hI.mono hbe.size))).mono ?_
        rintro e w8 ⟨rfl, hb⟩
        replace hI := hI.trans (hb.mono hI.size)
        refine hK _ _ hI ?_
        clear hK K hb
        repeat
          apply wpSched_q rfl rfl
          case h =>
            intro w' hI K hK
            simp only [quietV, stillV]
            go_simp
            exact hK
          go_simp
        refine wpSched_nil ?_
        try simp only [List.drop_succ_cons, List.drop_zero, List.drop_nil]
        have g1 := (hI.cell (p := ⟨gv, y, none⟩) g4).trans g1'
        have g5 := (hI.frozen (p := ⟨gv, y, none⟩) g4).trans g2
        have Z := Lib.hid (HRE.out _ hI)
        clear hI g1' g2 kv kc km f1 hbe f6
        go_wp2
        go_roundw
        case rel => exact ⟨j + 1, by omega, by go_num, Z.out.1, Z.out.2⟩
        case measure => simp [intOf]; omega
      · obtain rfl : j = ms.length := by omega
        rw [HVE.out] at HS
        have hbe := hs.be
        have hr2 := HKd2.out.below hbe HKd2.out.lt
        have hk := hs.blk
        have kc := hk.cell
        have kl := hk.lt
        have rc := hr2.cell
        have rf := hr2.frozen
        have rl := hr2.lt
        have HBB := Lib.hid (bthen HB4.out hbe)
        have hl4 := HKd2.out.lt
        have hsz4 := HB4.out.size
        have hne := hs.ne
        have hgB := hs.gB
        have Z1 : Hid (∀ x y z, Ow cI 2 w.heap.size (((wr.setCell ⟨w.heap.size + 2, 0, none⟩ x).setCell ⟨w.heap.size + 2, 1, none⟩ y).setCell ⟨w.heap.size + 2, 2, none⟩ z) (.slice Au gs.length cu) (li gs)) := Lib.hid (fun x y z => by
          have hh := hs.o1.mono (B' := w4.heap.size) (Nat.le_refl _)
          exact (((hh.setBelow (p := ⟨w.heap.size + 2, 0, none⟩) hl4 x).setBelow (p := ⟨w.heap.size + 2, 1, none⟩) hl4 y).setBelow (p := ⟨w.heap.size + 2, 2, none⟩) hl4 z).mono hsz4)
        have Z2 : Hid (∀ x y z, Ow cI 2 w.heap.size (((wr.setCell ⟨w.heap.size + 2, 0, none⟩ x).setCell ⟨w.heap.size + 2, 1, none⟩ y).setCell ⟨w.heap.size + 2, 2, none⟩ z) (.slice (some ⟨gv, 0, none⟩) 6 6) (li (fmv ns us f))) := Lib.hid (fun x y z => by
          have hh := HS.out.o2
          exact (((hh.setBelow (p := ⟨w.heap.size + 2, 0, none⟩) hl4 x).setBelow (p := ⟨w.heap.size + 2, 1, none⟩) hl4 y).setBelow (p := ⟨w.heap.size + 2, 2, none⟩) hl4 z).mono hsz4)
        have N1 := Lib.hid hs.n1
        clear hs hsm hbe hr2 hk hj
        go_wp2
        refine bodyPost_ret (v := .tuple #[.agg #[.int .i64 gs.length, .slice Au gs.length cu, .slice (some ⟨gv, 0, none⟩) 6 6], .int .i64 0]) (by simp [results, Tryz.results6, go_sem, rc, rf, rl]) rfl ⟨_, _, rfl, ?_, ?_, ?_, ?_⟩
        · exact Z1.out _ _ _
        · exact Z2.out _ _ _
        · intro k hk e
          injection hk with hk
          subst hk
          exact N1.out e
        · exact ((HBB.out.setCell (by show w.heap.size ≤ w.heap.size + 2; omega) _).setCell (by show w.heap.size ≤ w.heap.size + 2; omega) _).setCell (by show w.heap.size ≤ w.heap.size + 2; omega) _
/- Contracts of chapter 14: FiltrationModel, of the reference. -/
def smkz (n : Nat) : Array Value := (List.replicate n (Value.int .i64 0)).toArray
theorem smkz_flat (n : Nat) : flat cI (List.replicate n 0) = (smkz n).toList := by rw [flat_cI]; unfold smkz; rw [List.map_replicate]
theorem run_smkz (n : Nat) (h : n ≤ 1048576) (w : World) :
    (Instr.makeSlice 24 (.int .i64 (n : Int)) (.int .i64 (n : Int))).run Tryz.prog w = .ok (.slice (some ⟨w.heap.size, 0, none⟩) n n) (w.alloc (.cells (smkz n) 2)) := by
  obtain ⟨i, hi, hz, hsize, hby⟩ := ty_int64.info
  have := run_make (P := Tryz.prog) w 24 2 i _ ty_int64.under hi hz .i64 .i64 (n : Int) (n : Int) (by omega) (Int.le_refl _) (by rw [hby]; omega) (by omega)
  have e : madeCells (Value.int .i64 0).cells ((n : Int).toNat * i.size) = smkz n := by
    rw [hsize, Int.toNat_natCast, Nat.mul_one]
    apply Array.ext (by simp [madeCells, smkz])
    intro j h1 h2
    simp [madeCells, smkz, Value.cells, Nat.mod_one]
  rw [this, e, Int.toNat_natCast]
theorem Ow.smkz {B : Nat} (w : World) (n g : Nat) (hg : g = w.heap.size) (hB : B ≤ g) (h : n ≤ 1048576) : Ow cI 2 B (w.alloc (.cells (smkz n) 2)) (.slice (some ⟨g, 0, none⟩) n n) (List.replicate n 0) :=
  Ow.lit' (List.replicate n (0 : Int)) hg (by simp) (smkz_flat n) hB (by simp; omega)
/-- the values that are being made, and the variables -/
structure SV (B gv : Nat) (q : Value) (V ms : List Int) (w X : World) : Prop where
  o : Ow cI 2 B X (.slice (some ⟨gv, 0, none⟩) 6 6) V
  m : Ow cI 2 B X q ms
  n : q.ownBlock ≠ some gv
  be : Below B w X
theorem SV.set {B gv : Nat} {q : Value} {V ms : List Int} {w X : World} (h : SV B gv q V ms w X) (p : Nat) (y : Int) (hp : p < V.length) : SV B gv q (V.set p y) ms w (X.setCell ⟨gv, p, none⟩ (.int .i64 y)) :=
  ⟨h.o.set1 rfl rfl hp, h.m.far h.n _, h.n, h.be.setCell (h.o.block gv rfl).1 _⟩
theorem SV.below {B gv : Nat} {q : Value} {V ms : List Int} {w X Y : World} (h : SV B gv q V ms w X) (hb : Below X.heap.size X Y) (hB : B ≤ X.heap.size) : SV B gv q V ms w Y :=
  ⟨h.o.below hb, h.m.below hb, h.n, h.be.trans (hb.mono hB)⟩
theorem set_self0 {L : List Nat} {p : Nat} (hp : p < L.length) (h : L.getD p 0 = 0) : L.set p 0 = L := by
  have e : L[p] = 0 := by rw [List.getD_eq_getElem?_getD, List.getElem?_eq_getElem hp] at h; exact h
  rw [← e]; exact List.set_getElem_self hp
theorem getD_set_self0 {L : List Nat} {p x : Nat} (hp : p < L.length) : (L.set p x).getD p 0 = x := by
  rw [List.getD_eq_getElem?_getD, List.getElem?_set, if_pos rfl, if_pos hp]; rfl
set_option maxHeartbeats 2000000 in
set_option maxRecDepth 100000 in
theorem spec_FiltrationModel_ok (ns us gs : List Nat) (f : Fm) (A0 A1 A4 : Option Addr) (c0 c1 c4 : Nat) (v : Value) (w : World) (hm : Mdl w (.slice A0 ns.length c0) (.slice A1 6 c1) ns us) (h1 : MdN ns us) (h : Sl cN w v (enc f)) (hok : f.ok = true) (hl : (enc f).length ≤ 40) (hmk : mdOk ns.length (li ns) (li us) = true) (hfk : isF (enc f) = true) (hg : Sl cI w (.slice A4 gs.length c4) (li gs)) (hgr : RelN gs) (hfr : frOk gs.length (li gs) = true) (his : isf ns us f gs = true) :
    Calls Tryz.prog 7 #[.agg #[.int .i64 ns.length, .slice A0 ns.length c0, .slice A1 6 c1], v, .agg #[.int .i64 gs.length, .slice A4 gs.length c4]] w fun e w' => ∃ u1 u2, e = .returned (.tuple #[.agg #[.int .i64 gs.length, u1, u2], .int .i64 0]) ∧ Ow cI 2 w.heap.size w' u1 (li gs) ∧ Ow cI 2 w.heap.size w' u2 (li (fmv ns us f)) ∧ Below w.heap.size w w' := by
  obtain ⟨Af, cf, rfl⟩ := h.opn
  have hb0 := below_alloc' w (.cells #[.int .i64 ns.length, .slice A0 ns.length c0, .slice A1 6 c1] 28)
  have hk0 := Blk.new w 28 #[.int .i64 ns.length, .slice A0 ns.length c0, .slice A1 6 c1]
  have hb1 := below_alloc' (w.alloc (.cells #[.int .i64 ns.length, .slice A0 ns.length c0, .slice A1 6 c1] 28)) (.cells #[.int .i64 gs.length, .slice A4 gs.length c4] 26)
  have hk1 : Blk _ (w.heap.size + 1) _ _ := Blk.new' (w.alloc (.cells #[.int .i64 ns.length, .slice A0 ns.length c0, .slice A1 6 c1] 28)) 26 #[.int .i64 gs.length, .slice A4 gs.length c4] (by simp)
  have hb2 := below_alloc' ((w.alloc (.cells #[.int .i64 ns.length, .slice A0 ns.length c0, .slice A1 6 c1] 28)).alloc (.cells #[.int .i64 gs.length, .slice A4 gs.length c4] 26)) (.cells #[.int .i64 0, .slice none 0 0, .slice none 0 0] 28)
  have hk2 : Blk _ (w.heap.size + 2) _ _ := Blk.new' ((w.alloc (.cells #[.int .i64 ns.length, .slice A0 ns.length c0, .slice A1 6 c1] 28)).alloc (.cells #[.int .i64 gs.length, .slice A4 gs.length c4] 26)) 28 #[.int .i64 0, .slice none 0 0, .slice none 0 0] (by simp)
  have HB := Lib.hid (bthen (bthen hb0 hb1) hb2)
  have HK0 := Lib.hid ((hk0.below hb1 hk0.lt).below hb2 (hk0.below hb1 hk0.lt).lt)
  have HK1 := Lib.hid (hk1.below hb2 hk1.lt)
  have HK2 := Lib.hid hk2
  have H1 := Lib.hid h1
  have HG := Lib.hid hg
  have HGR := Lib.hid hgr
  have E4 := Lib.hid (li_length gs)
  have E2 := Lib.hid (show (li us).length = 6 by rw [li_length, h1.l])
  have HC := Lib.hid (fun W (hW : Below w.heap.size w W) => spec_l14Code_ok ns us f A0 A1 c0 c1 _ W (hm.below hW) h1 (h.below hW) hok hl hmk hfk)
  have HFR := Lib.hid (fun W (hW : Below w.heap.size w W) => hfr ▸ spec_l05Is gs.length _ (li gs) W (hg.below hW) (by rw [E4.out]; have := hgr.1; omega))
  have HVr := Lib.hid (fun W (hW : Below w.heap.size w W) => spec_l02Variables _ (enc f) W (h.below hW) (by omega) (isF_nodes hfk))
  have HOn := Lib.hid (fun W (hW : Below w.heap.size w W) => spec_l01Own _ (li gs) W (hg.below hW) (by rw [E4.out]; have := hgr.1; omega))
  have HU := Lib.hid hm.u
  have HV6 := Lib.hid (show vmask (enc f) < 2 ^ 6 from vmask_lt (enc f) (enc_nodes f hok))
  have HL := Lib.hid hl
  have HIS := Lib.hid his
  clear hb0 hb1 hk0 hk1 hb2 hk2 hm h hmk hfk h1 hl hg hgr hfr his
  go_enter Tryz.func7, Tryz.ntmps7
  go_upto_region 1 with fail
  generalize World.alloc (World.alloc (w.alloc _) _) _ = W at *
  have k0 := HK0.out.cell
  have l0 := HK0.out.lt
  go_wp2_with fail
  refine (HC.out _ HB.out).mono ?_
  rintro e w1 ⟨s, rfl, ⟨A2, c2, A3, c3, Ab, nb, cb, Ai, ni, ci, Ao, no, co, rfl, ho, hsp⟩, hb⟩
  have HB1 := Lib.hid (bthen HB.out hb)
  have hba := below_alloc' w1 (.cells #[.int .i64 ns.length, .slice A0 ns.length c0, .slice A1 6 c1, .slice A2 ns.length c2, .slice A3 (acn ns us f) c3, .slice Ab nb cb, .slice Ai ni ci, .slice Ao no co] 59)
  have hbk := Blk.new w1 59 #[.int .i64 ns.length, .slice A0 ns.length c0, .slice A1 6 c1, .slice A2 ns.length c2, .slice A3 (acn ns us f) c3, .slice Ab nb cb, .slice Ai ni ci, .slice Ao no co]
  have HBA := Lib.hid (bthen HB1.out hba)
  have HBK := Lib.hid hbk
  have HSQ := Lib.hid (hsp.below hba)
  have HK30 := Lib.hid ((HK0.out.below hb HK0.out.lt).below hba (HK0.out.below hb HK0.out.lt).lt)
  have HK31 := Lib.hid ((HK1.out.below hb HK1.out.lt).below hba (HK1.out.below hb HK1.out.lt).lt)
  have HK32 := Lib.hid ((HK2.out.below hb HK2.out.lt).below hba (HK2.out.below hb HK2.out.lt).lt)
  clear ho hsp hb hba hbk k0 l0 HK0 HK1 HK2 HB HB1
  go_upto_region 2 with fail
  generalize World.alloc w1 _ = w2 at *
  have k1 := HK31.out.cell
  have l1 := HK31.out.lt
  go_wp2_with fail
  refine (HFR.out _ HBA.out).mono ?_
  rintro e w3 ⟨rfl, hb⟩
  have HB3 := Lib.hid (bthen HBA.out hb)
  have HBK3 := Lib.hid (HBK.out.below hb HBK.out.lt)
  have HK40 := Lib.hid (HK30.out.below hb HK30.out.lt)
  have HK41 := Lib.hid (HK31.out.below hb HK31.out.lt)
  have HK42 := Lib.hid (HK32.out.below hb HK32.out.lt)
  have HS3 := Lib.hid (HSQ.out.below hb)
  clear hb k1 l1 HK30 HK31 HK32 HBK HSQ HBA HFR
  have kS := HBK3.out.cell
  have lS := HBK3.out.lt
  have k1 := HK41.out.cell
  have l1 := HK41.out.lt
  go_wp2_with fail
  refine (spec_l14Between ns us gs f A0 A1 A2 A3 A4 c0 c1 c2 c3 c4 Ab Ai Ao nb cb ni ci no co _ HS3.out H1.out (by have := HL.out; omega) (HG.out.below HB3.out) HGR.out).mono ?_
  rintro e w4 ⟨rfl, hb⟩
  rw [HIS.out]
  have HB4 := Lib.hid (bthen HB3.out hb)
  have HBK4 := Lib.hid (HBK3.out.below hb lS)
  have HK50 := Lib.hid (HK40.out.below hb HK40.out.lt)
  have HK51 := Lib.hid (HK41.out.below hb HK41.out.lt)
  have HK52 := Lib.hid (HK42.out.below hb HK42.out.lt)
  have HS4 := Lib.hid (HS3.out.below hb)
  clear hb kS k1 lS l1 HK40 HK41 HK42 HBK3 HS3 HB3
  go_upto_region 6 with fail
  go_cut [10, 11] (fun p q X => ∃ gv A6 c6, p = .slice (some ⟨gv, 0, none⟩) 6 6 ∧ q = .slice A6 (mems (vmask (enc f))).length c6 ∧ SV w4.heap.size gv q (List.replicate 6 0) (mems (vmask (enc f))) w4 X)
  case first =>
    have HR : ∀ w : World, (Instr.makeSlice 24 (.int .i64 6) (.int .i64 6)).run Tryz.prog w = .ok (.slice (some ⟨w.heap.size, 0, none⟩) 6 6) (w.alloc (.cells (smkz 6) 2)) := fun w => run_smkz 6 (by omega) w
    have hbd : Below w.heap.size w w4.drew := HB4.out.drew
    have hsz : w.heap.size ≤ w4.heap.size := HB4.out.size
    have be0 : Below w4.heap.size w4 w4.drew := (Below.refl _ _).drew
    go_region_law (go_simp; go_at_call 31; refine (HVr.out _ (by first | exact hbd | exact hbd.alloc hsz _)).mono ?_; rintro e w5 ⟨u, rfl, ho, hb⟩; obtain ⟨A6, c6, rfl⟩ := ho.opn; have hs5 := hb.size; have hob := ho.block)
    all_goals go_wp2_with fail
    all_goals go_meet
    · have e1 : (w4.alloc (.cells (smkz 6) 2)).drew.heap.size = w4.heap.size + 1 := size_alloc' w4 (.cells (smkz 6) 2)
      rw [e1] at ho hs5 hob
      exact ⟨_, _, _, rfl, rfl, ((Ow.smkz w4 6 w4.heap.size rfl (Nat.le_refl _) (by omega)).drewN 1).below hb, ho.mono (by omega), fun hh => (by have := hob _ hh; omega), ((Below.refl _ _).alloc (Nat.le_refl _) _).drew.trans (hb.mono (by rw [e1]; omega))⟩
    · have hs6 : w4.heap.size ≤ w5.heap.size := hs5
      exact ⟨_, _, _, rfl, rfl, Ow.smkz w5 6 _ rfl hs6 (by omega), (ho.mono (Nat.le_refl _)).alloc _, fun hh => (by have := hob _ hh; omega), (be0.trans hb).alloc hs6 _⟩
  case rest =>
    obtain ⟨gv, A6, c6, rfl, rfl, hsv⟩ := hcut
    have HMM := Lib.hid (fun x (hx : x ∈ mems (vmask (enc f))) => mems_mem (n := 6) HV6.out hx)
    have HM6 := Lib.hid (show (mems (vmask (enc f))).length ≤ 64 from memsTo_length _ 64)
    have HZ0 : Hid (List.replicate 6 (0 : Int) = li (vset (mems (vmask (enc f))) (fmS ns us f) 0)) := Lib.hid rfl
    have HST : Hid (∀ j, vset (mems (vmask (enc f))) (fmS ns us f) (j + 1) = (vset (mems (vmask (enc f))) (fmS ns us f) j).set ((mems (vmask (enc f))).getD j 0).toNat (fmS ns us f ((mems (vmask (enc f))).getD j 0).toNat)) := Lib.hid fun j => rfl
    have HVL : Hid (∀ j, (li (vset (mems (vmask (enc f))) (fmS ns us f) j)).length = 6) := Lib.hid (fun j => by rw [li_length, vset_length])
    have HVE : Hid (vset (mems (vmask (enc f))) (fmS ns us f) (mems (vmask (enc f))).length = fmv ns us f) := Lib.hid rfl
    have HV0 : Hid (∀ i, i < (mems (vmask (enc f))).length → (vset (mems (vmask (enc f))) (fmS ns us f) i).getD ((mems (vmask (enc f))).getD i 0).toNat 0 = 0) := Lib.hid (fun i hi => vset_no i (fun j hj => mems_ne hj hi))
    have HA8 : Hid (acn ns us f ≤ 8) := Lib.hid (Nat.le_trans (acn_le ns us f) H1.out.r.1)
    have HFW : Hid (∀ k, (afw ns us f).getD k 0 ≤ 8) := Lib.hid (afw_le8 ns us f H1.out.r.1)
    have HFL : Hid ((li (afw ns us f)).length = acn ns us f) := Lib.hid (by rw [li_length, afw_length])
    have HUL : Hid (∀ j, us.getD j 0 < 256) := Lib.hid (fun j => Nat.lt_of_lt_of_le (getD_lt H1.out.b j) (two_pow_256 H1.out.r.1))
    have HSE : Hid (∀ v, fmS ns us f v = msk (fun k => (us.getD v 0).testBit ((afw ns us f).getD k 0)) (acn ns us f)) := Lib.hid fun v => rfl
    have HSV := Lib.hid hsv
    clear hsv
    generalize mems (vmask (enc f)) = ms at *
    have hm64 := HM6.out
    have ha8 := HA8.out
    go_wp2
    go_loopw [12] (fun i wr => ∃ j : Nat, j ≤ ms.length ∧ i = .int .i64 j ∧ SV w4.heap.size gv (.slice A6 ms.length c6) (li (vset ms (fmS ns us f) j)) ms w4 wr) (fun i _ => ms.length - (intOf i).toNat)
    case atStart => exact ⟨0, Nat.zero_le _, rfl, HSV.out⟩
    case round =>
      obtain ⟨j, hj, rfl, hs⟩ := hrel
      have HS := Lib.hid hs
      have HBo := Lib.hid (bthen HB4.out hs.be)
      by_cases hlt : j < ms.length
      · obtain ⟨y, hxx, hyn⟩ := HMM.out ms[j] (List.getElem_mem hlt)
        have hgd : (ms.getD j 0).toNat = y := by rw [List.getD_eq_getElem?_getD, List.getElem?_eq_getElem hlt, Option.getD_some, hxx, Int.toNat_natCast]
        have HSj := Lib.hid (HST.out j)
        have h0 := HV0.out j hlt
        rw [hgd] at h0 HSj
        have hL6 : (vset ms (fmS ns us f) j).length = 6 := vset_length _ _ _
        have HLL : Hid (∀ m, (li ((vset ms (fmS ns us f) j).set y m)).length = 6) := Lib.hid (fun m => by rw [li_length, List.length_set, hL6])
        have HI0 : Hid ((vset ms (fmS ns us f) j).set y 0 = vset ms (fmS ns us f) j) := Lib.hid (set_self0 (by omega) h0)
        have HGS : Hid (∀ m, ((vset ms (fmS ns us f) j).set y m).getD y 0 = m) := Lib.hid (fun m => getD_set_self0 (by omega))
        have HSS : Hid (∀ m m' : Nat, (li ((vset ms (fmS ns us f) j).set y m)).set y (m' : Int) = li ((vset ms (fmS ns us f) j).set y m')) := Lib.hid (fun m m' => by rw [li_set, List.set_set])
        have HEN := Lib.hid (HSE.out y)
        have hjm : (j : Int) < (ms.length : Int) := by omega
        clear hs h0 hL6 hgd
        generalize vset ms (fmS ns us f) j = L at *
        generalize wr = wo at *
        go_wp2
        go_loopw [13] (fun i wi => ∃ k : Nat, k ≤ acn ns us f ∧ i = .int .i64 k ∧ SV w4.heap.size gv (.slice A6 ms.length c6) (li (L.set y (msk (fun k => (us.getD y 0).testBit ((afw ns us f).getD k 0)) k))) ms w4 wi) (fun i _ => acn ns us f - (intOf i).toNat)
        case atStart => exact ⟨0, Nat.zero_le _, rfl, by rw [show msk (fun k => (us.getD y 0).testBit ((afw ns us f).getD k 0)) 0 = 0 from rfl, HI0.out]; exact HS.out⟩
        case round =>
          obtain ⟨k, hk, rfl, hs⟩ := hrel
          have HSi := Lib.hid hs
          have hbe := hs.be
          have k2 : wr.cell? ⟨w.heap.size, 2, none⟩ = some (.slice A1 6 c1) := (HK50.out.below hbe HK50.out.lt).cell 2
          have l2 := (HK50.out.below hbe HK50.out.lt).lt
          have s4 : wr.cell? ⟨w1.heap.size, 4, none⟩ = some (.slice A3 (acn ns us f) c3) := (HBK4.out.below hbe HBK4.out.lt).cell 4
          have ls := (HBK4.out.below hbe HBK4.out.lt).lt
          by_cases hkl : k < acn ns us f
          · have hki : (k : Int) < (acn ns us f : Int) := by omega
            obtain ⟨b1, o1, hA1, t1, f1⟩ := (show Sl cI wr (.slice A1 (li us).length c1) (li us) by rw [E2.out]; exact HU.out.below (bthen HB4.out hbe)).atI (k := y) (by rw [E2.out]; exact hyn)
            obtain ⟨b6, o6, hA6, t6, f6⟩ := hs.m.sl.atI hlt
            obtain ⟨b3, o3, hA3, t3, f3⟩ := (show Sl cI wr (.slice A3 (li (afw ns us f)).length c3) (li (afw ns us f)) by rw [HFL.out]; exact HS4.out.fs.below hbe).atI (k := k) (by rw [HFL.out]; exact hkl)
            have hwn : wr.cell? ⟨gv, y, none⟩ = some (.int .i64 (msk (fun k => (us.getD y 0).testBit ((afw ns us f).getD k 0)) k : Nat)) ∧ wr.frozen? ⟨gv, y, none⟩ = false ∧ w4.heap.size ≤ gv ∧ gv < wr.heap.size := by
              have q := hs.o.at1 (j := y) rfl (by rw [HLL.out]; exact hyn) rfl
              rw [li_get, HGS.out] at q
              exact q
            obtain ⟨g1, g2, g3, g4⟩ := hwn
            have HSF : Hid (∀ X, Below wr.heap.size wr X → SV w4.heap.size gv (.slice A6 ms.length c6) (li (L.set y (msk (fun k => (us.getD y 0).testBit ((afw ns us f).getD k 0)) k ||| 2 ^ k))) ms w4 (X.setCell ⟨gv, y, none⟩ (.int .i64 (msk (fun k => (us.getD y 0).testBit ((afw ns us f).getD k 0)) k ||| 2 ^ k : Nat)))) := Lib.hid (fun X hX => by
              have q := (hs.below hX hbe.size).set y ((msk (fun k => (us.getD y 0).testBit ((afw ns us f).getD k 0)) k ||| 2 ^ k : Nat) : Int) (by rw [HLL.out]; exact hyn)
              rw [HSS.out] at q
              exact q)
            have HLd := Lib.hid (fun X (hX : Below wr.heap.size wr X) => hs.below hX hbe.size)
            have HMK : Hid (msk (fun k => (us.getD y 0).testBit ((afw ns us f).getD k 0)) (k + 1) = msk (fun k => (us.getD y 0).testBit ((afw ns us f).getD k 0)) k ||| if (us.getD y 0).testBit ((afw ns us f).getD k 0) then 2 ^ k else 0) := Lib.hid rfl
            have hmb := msk_bound (fun k => (us.getD y 0).testBit ((afw ns us f).getD k 0)) hk ha8
            have hub := HUL.out y
            have hfb := HFW.out k
            rw [li_get] at f1 f3
            rw [hxx] at f6
            have hsz := hbe.size
            subst hA1
            clear hs hbe
            obtain ⟨q, hq⟩ : ∃ q, msk (fun k => (us.getD y 0).testBit ((afw ns us f).getD k 0)) k = q := ⟨_, rfl⟩
            obtain ⟨m, hmm⟩ : ∃ m, us.getD y 0 = m := ⟨_, rfl⟩
            obtain ⟨z, hzz⟩ : ∃ z, (afw ns us f).getD k 0 = z := ⟨_, rfl⟩
            have HMK2 : Hid (msk (fun k => (us.getD y 0).testBit ((afw ns us f).getD k 0)) (k + 1) = q ||| if m.testBit z then 2 ^ k else 0) := Lib.hid (by rw [← hq, ← hmm, ← hzz]; rfl)
            rw [hq] at g1 HSF HLd hmb
            rw [hmm] at f1 hub
            rw [hzz] at f3 hfb
            clear HMK hq hmm hzz
            subst hA6 hA3
            have hyi : (y : Int) < 6 := by omega
            have e2 := i64_or_nat q (2 ^ k) (by omega) (two_pow_lt (by omega))
            rw [← cast_two_pow] at e2
            have EO : Hid ((2 : Int) ^ (k : Int).toNat = (2 : Int) ^ k) := Lib.hid (by rw [Int.toNat_natCast])
            go_upto_region 13 with fail
            refine wp_region_sched (Below wr.heap.size wr) 14 [0, 1, 2, 3, 4, 5, 6, 7, 8, 9, 10, 11, 12] [0, 1, 2, 3, 4, 5, 6, 7, 8, 9, 10, 11, 12, 13] (by kernel_rfl) (by kernel_rfl) (Below.refl _ _).drew ?_
            repeat
              apply wpSched_q rfl rfl
              case h =>
                intro w' hI K hK
                have k2' := (hI.cell (p := ⟨w.heap.size, 2, none⟩) l2).trans k2
                have f1' := (hI.cell (p := ⟨b1, o1 + y, none⟩) t1).trans f1
                have f6' := (hI.cell (p := ⟨b6, o6 + j, none⟩) t6).trans f6
                have s4' := (hI.cell (p := ⟨w1.heap.size, 4, none⟩) ls).trans s4
                have f3' := (hI.cell (p := ⟨b3, o3 + k, none⟩) t3).trans f3
                simp only [quietV, stillV]
                go_simp
                exact hK
              go_simp
            refine wpSched_r rfl rfl ?_ (Below.refl _ _).drew
            intro K hK _
            go_simp
            refine (spec_l01Bit m z _ (by omega) (by omega)).mono ?_
            rintro e w8 ⟨rfl, rfl⟩
            refine hK _ _ (Below.refl _ _).drew ?_
            clear hK K
            refine wpSched_nil ?_
            try simp only [List.drop_succ_cons, List.drop_zero, List.drop_nil]
            have f6' : wr.drew.cell? ⟨b6, o6 + j, none⟩ = some (.int .i64 y) := f6
            cases ht : m.testBit z
            · rw [ht] at HMK2
              have HMZ : Hid (msk (fun k => (us.getD y 0).testBit ((afw ns us f).getD k 0)) (k + 1) = q) := Lib.hid (by rw [HMK2.out]; simp)
              clear ht HMK2
              go_wp2
              go_roundw
              case rel => exact ⟨k + 1, by omega, by go_num, by rw [HMZ.out]; exact HLd.out _ (Below.refl _ _).drew⟩
              case measure => simp [intOf]; omega
            · rw [ht] at HMK2
              have HMZ : Hid (msk (fun k => (us.getD y 0).testBit ((afw ns us f).getD k 0)) (k + 1) = q ||| 2 ^ k) := Lib.hid (by rw [HMK2.out]; simp)
              clear ht HMK2
              have g1' : wr.drew.cell? ⟨gv, y, none⟩ = some (.int .i64 (q : Nat)) := g1
              have g5 : wr.drew.drew.cell? ⟨gv, y, none⟩ = some (.int .i64 (q : Nat)) := g1
              have g6 : wr.drew.drew.frozen? ⟨gv, y, none⟩ = false := g2
              have bdd : Below wr.heap.size wr wr.drew.drew := (Below.refl _ _).drew.drew
              go_upto_region 14 with fail
              refine wp_region_sched (Below wr.drew.heap.size wr.drew) 16 [0, 1, 2, 3, 4, 5, 6, 7, 8, 9, 10, 11, 12] [0, 1, 2, 3, 4, 5, 6, 7, 8, 9, 10, 11, 12, 13, 14, 15] (by kernel_rfl) (by kernel_rfl) (Below.refl _ _).drew ?_
              repeat
                apply wpSched_q rfl rfl
                case h =>
                  intro w' hI K hK
                  have f6'' := (hI.cell (p := ⟨b6, o6 + j, none⟩) t6).trans f6'
                  have g1'' := (hI.cell (p := ⟨gv, y, none⟩) g4).trans g1'
                  simp only [quietV, stillV]
                  go_simp
                  exact hK
                go_simp
              refine wpSched_r rfl rfl ?_ (Below.refl _ _).drew
              intro K hK _
              go_simp
              refine (spec_l01One k _ (by omega) (by omega)).mono ?_
              rintro e w8 ⟨rfl, rfl⟩
              try rw [EO.out]
              refine hK _ _ (Below.refl _ _).drew ?_
              clear hK K
              refine wpSched_r rfl rfl ?_ (Below.refl _ _).drew
              intro K hK _
              go_simp
              refine hK _ _ (Below.refl _ _).drew ?_
              clear hK K
              refine wpSched_r rfl rfl ?_ (Below.refl _ _).drew
              intro K hK _
              go_simp
              refine hK _ _ (Below.refl _ _).drew ?_
              clear hK K
              refine wpSched_nil ?_
              try simp only [List.drop_succ_cons, List.drop_zero, List.drop_nil]
              go_wp2
              go_roundw
              case rel => exact ⟨k + 1, by omega, by go_num, by rw [HMZ.out]; exact HSF.out _ bdd⟩
              case measure => simp [intOf]; omega
          · obtain rfl : k = acn ns us f := by omega
            have HE : Hid (SV w4.heap.size gv (.slice A6 ms.length c6) (li (vset ms (fmS ns us f) (j + 1))) ms w4 wr) := Lib.hid (by rw [HSj.out, HEN.out]; exact hs)
            clear hs hbe
            go_wp2
            go_roundw
            case rel => exact ⟨j + 1, by omega, by go_num, HE.out⟩
            case measure => simp [intOf]; omega
      · obtain rfl : j = ms.length := by omega
        rw [HVE.out] at HS
        have hbe := hs.be
        have HK61 := Lib.hid (HK51.out.below hbe HK51.out.lt)
        have HK62 := Lib.hid (HK52.out.below hbe HK52.out.lt)
        clear hs hbe
        have k1 : wr.cell? ⟨w.heap.size + 1, 1, none⟩ = some (.slice A4 gs.length c4) := HK61.out.cell 1
        have l1 := HK61.out.lt
        go_wp2_with fail
        refine (HOn.out _ HBo.out).mono ?_
        rintro e w7 ⟨u, rfl, ho, hb⟩
        obtain ⟨A7, c7, rfl⟩ := ho.opn
        have HBp := Lib.hid (bthen HBo.out hb)
        have HO7 := Lib.hid ho.sl
        have HK72 := Lib.hid (HK62.out.below hb HK62.out.lt)
        have HS7 := Lib.hid (HS.out.o.below hb)
        clear ho hb k1 l1
        go_wp2_with fail
        refine (spec_l05Make _ _ _ HO7.out (by rw [E4.out]; have := HGR.out.1; omega)).mono ?_
        rintro e w8 ⟨u, rfl, ho, hb⟩
        obtain ⟨A8, c8, rfl⟩ := ho.opn
        have hr1 := HK72.out.below hb HK72.out.lt
        have rc := hr1.cell
        have rf := hr1.frozen
        have rl := hr1.lt
        rw [E4.out] at ho ⊢
        have hlr := HK72.out.lt
        have hl4 := HK52.out.lt
        have Z1 := Lib.hid (show Ow cI 2 (w.heap.size + 3) w8 _ _ from ho.mono hlr)
        have Z2 := Lib.hid (show Ow cI 2 (w.heap.size + 3) w8 _ _ from (HS7.out.below hb).mono hl4)
        have Z3 := Lib.hid (bthen HBp.out hb)
        clear ho hb hr1
        go_wp2
        refine bodyPost_ret (v := .tuple #[.agg #[.int .i64 gs.length, .slice A8 gs.length c8, .slice (some ⟨gv, 0, none⟩) 6 6], .int .i64 0]) (by simp [results, Tryz.results7, go_sem, rc, rf, rl]) rfl ⟨_, _, rfl, ?_, ?_, ?_⟩
        · exact (((Z1.out.setBelow (p := ⟨w.heap.size + 2, 0, none⟩) (Nat.lt_succ_self _) _).setBelow (p := ⟨w.heap.size + 2, 1, none⟩) (Nat.lt_succ_self _) _).setBelow (p := ⟨w.heap.size + 2, 2, none⟩) (Nat.lt_succ_self _) _).mono (show w.heap.size ≤ w.heap.size + 3 by omega)
        · exact (((Z2.out.setBelow (p := ⟨w.heap.size + 2, 0, none⟩) (Nat.lt_succ_self _) _).setBelow (p := ⟨w.heap.size + 2, 1, none⟩) (Nat.lt_succ_self _) _).setBelow (p := ⟨w.heap.size + 2, 2, none⟩) (Nat.lt_succ_self _) _).mono (show w.heap.size ≤ w.heap.size + 3 by omega)
        · exact ((Z3.out.setCell (by show w.heap.size ≤ w.heap.size + 2; omega) _).setCell (by show w.heap.size ≤ w.heap.size + 2; omega) _).setCell (by show w.heap.size ≤ w.heap.size + 2; omega) _
/- Contracts of chapter 14: FiltrationModel, of the reference: bad inputs. -/
set_option maxRecDepth 100000 in
theorem spec_FiltrationModel_bad1 (n k : Int) (va vu vf vg : Value) (xs vs gs : List Int) (zs : List Nd) (w : World) (ha : Sl cI w va xs) (hu : Sl cI w vu vs) (hf : Sl cN w vf zs) (hg : Sl cI w vg gs) (hl : xs.length ≤ 1048576) (hl' : vs.length ≤ 1048576) (hl2 : zs.length ≤ 1048576) (hl3 : gs.length ≤ 1048576)
    (hc : mdOk n xs vs = false ∨ (mdOk n xs vs = true ∧ isF zs = false)) :
    Calls Tryz.prog 7 #[.agg #[.int .i64 n, va, vu], vf, .agg #[.int .i64 k, vg]] w fun e w' => e = .returned (.tuple #[.agg #[.int .i64 0, .slice none 0 0, .slice none 0 0], .int .i64 1]) ∧ Below w.heap.size w w' := by
  obtain ⟨A0, c0, rfl⟩ := ha.opn
  obtain ⟨A1, c1, rfl⟩ := hu.opn
  obtain ⟨A4, c4, rfl⟩ := hg.opn
  have hb0 := below_alloc' w (.cells #[.int .i64 n, .slice A0 xs.length c0, .slice A1 vs.length c1] 28)
  have hk0 := Blk.new w 28 #[.int .i64 n, .slice A0 xs.length c0, .slice A1 vs.length c1]
  have hb1 := below_alloc' (w.alloc (.cells #[.int .i64 n, .slice A0 xs.length c0, .slice A1 vs.length c1] 28)) (.cells #[.int .i64 k, .slice A4 gs.length c4] 26)
  have hb2 := below_alloc' ((w.alloc (.cells #[.int .i64 n, .slice A0 xs.length c0, .slice A1 vs.length c1] 28)).alloc (.cells #[.int .i64 k, .slice A4 gs.length c4] 26)) (.cells #[.int .i64 0, .slice none 0 0, .slice none 0 0] 28)
  have hk2 : Blk _ (w.heap.size + 2) _ _ := Blk.new' ((w.alloc (.cells #[.int .i64 n, .slice A0 xs.length c0, .slice A1 vs.length c1] 28)).alloc (.cells #[.int .i64 k, .slice A4 gs.length c4] 26)) 28 #[.int .i64 0, .slice none 0 0, .slice none 0 0] (by simp)
  have HB := Lib.hid (bthen (bthen hb0 hb1) hb2)
  have HK2 := Lib.hid hk2
  have HK0 := Lib.hid ((hk0.below hb1 hk0.lt).below hb2 (hk0.below hb1 hk0.lt).lt)
  have HC := Lib.hid (fun W (hW : Below w.heap.size w W) => spec_l14Code_bad n _ _ vf xs vs zs W (ha.below hW) (hu.below hW) (hf.below hW) hl hl' hl2 hc)
  clear hb2 hk2 hb0 hb1 hk0 ha hu hf hg hc
  go_enter Tryz.func7, Tryz.ntmps7
  go_upto_region 1 with fail
  generalize World.alloc (World.alloc (w.alloc _) _) _ = W at *
  have k0 := HK0.out.cell
  have l0 := HK0.out.lt
  go_wp2_with fail
  refine (HC.out _ HB.out).mono ?_
  rintro e w1 ⟨rfl, hb⟩
  have HB1 := Lib.hid (bthen HB.out hb)
  have hr0 := HK2.out.below hb HK2.out.lt
  have hr1 := hr0.alloc (.cells #[.int .i64 0, .slice none 0 0, .slice none 0 0, .slice none 0 0, .slice none 0 0, .slice none 0 0, .slice none 0 0, .slice none 0 0] 59)
  have HB2 := Lib.hid (HB1.out.alloc HB1.out.size (.cells #[.int .i64 0, .slice none 0 0, .slice none 0 0, .slice none 0 0, .slice none 0 0, .slice none 0 0, .slice none 0 0, .slice none 0 0] 59))
  clear hb k0 l0 hr0
  go_upto_region 2 with fail
  generalize World.alloc w1 _ = w2 at *
  have rc := hr1.cell
  have rf := hr1.frozen
  have rl := hr1.lt
  clear hr1
  go_wp2
  refine bodyPost_ret (v := .tuple #[.agg #[.int .i64 0, .slice none 0 0, .slice none 0 0], .int .i64 1]) (by simp [results, Tryz.results7, go_sem, rc, rf, rl]) rfl ⟨rfl, ?_⟩
  first | exact (((HB2.out).setCell (by show w.heap.size ≤ w.heap.size + 2; omega) _).setCell (by show w.heap.size ≤ w.heap.size + 2; omega) _).setCell (by show w.heap.size ≤ w.heap.size + 2; omega) _ | exact HB2.out
set_option maxRecDepth 100000 in
theorem spec_FiltrationModel_bad2 (ns us : List Nat) (f : Fm) (A0 A1 : Option Addr) (c0 c1 : Nat) (v vg : Value) (k : Int) (gs : List Int) (w : World) (hm : Mdl w (.slice A0 ns.length c0) (.slice A1 6 c1) ns us) (h1 : MdN ns us) (h : Sl cN w v (enc f)) (hok : f.ok = true) (hl : (enc f).length ≤ 40) (hmk : mdOk ns.length (li ns) (li us) = true) (hfk : isF (enc f) = true) (hg : Sl cI w vg gs) (hl3 : gs.length ≤ 1048576) (hfr : frOk k gs = false) :
    Calls Tryz.prog 7 #[.agg #[.int .i64 ns.length, .slice A0 ns.length c0, .slice A1 6 c1], v, .agg #[.int .i64 k, vg]] w fun e w' => e = .returned (.tuple #[.agg #[.int .i64 0, .slice none 0 0, .slice none 0 0], .int .i64 1]) ∧ Below w.heap.size w w' := by
  obtain ⟨A4, c4, rfl⟩ := hg.opn
  have hb0 := below_alloc' w (.cells #[.int .i64 ns.length, .slice A0 ns.length c0, .slice A1 6 c1] 28)
  have hk0 := Blk.new w 28 #[.int .i64 ns.length, .slice A0 ns.length c0, .slice A1 6 c1]
  have hb1 := below_alloc' (w.alloc (.cells #[.int .i64 ns.length, .slice A0 ns.length c0, .slice A1 6 c1] 28)) (.cells #[.int .i64 k, .slice A4 gs.length c4] 26)
  have hk1 : Blk _ (w.heap.size + 1) _ _ := Blk.new' (w.alloc (.cells #[.int .i64 ns.length, .slice A0 ns.length c0, .slice A1 6 c1] 28)) 26 #[.int .i64 k, .slice A4 gs.length c4] (by simp)
  have hb2 := below_alloc' ((w.alloc (.cells #[.int .i64 ns.length, .slice A0 ns.length c0, .slice A1 6 c1] 28)).alloc (.cells #[.int .i64 k, .slice A4 gs.length c4] 26)) (.cells #[.int .i64 0, .slice none 0 0, .slice none 0 0] 28)
  have hk2 : Blk _ (w.heap.size + 2) _ _ := Blk.new' ((w.alloc (.cells #[.int .i64 ns.length, .slice A0 ns.length c0, .slice A1 6 c1] 28)).alloc (.cells #[.int .i64 k, .slice A4 gs.length c4] 26)) 28 #[.int .i64 0, .slice none 0 0, .slice none 0 0] (by simp)
  have HB := Lib.hid (bthen (bthen hb0 hb1) hb2)
  have HK2 := Lib.hid hk2
  have HK0 := Lib.hid ((hk0.below hb1 hk0.lt).below hb2 (hk0.below hb1 hk0.lt).lt)
  have HK1 := Lib.hid (hk1.below hb2 hk1.lt)
  have HC := Lib.hid (fun W (hW : Below w.heap.size w W) => spec_l14Code_ok ns us f A0 A1 c0 c1 v W (hm.below hW) h1 (h.below hW) hok hl hmk hfk)
  have HFR := Lib.hid (fun W (hW : Below w.heap.size w W) => hfr ▸ spec_l05Is k _ gs W (hg.below hW) (by omega))
  clear hb2 hk2 hb0 hb1 hk0 hk1 hm h hmk hfk h1 hl hg hfr
  go_enter Tryz.func7, Tryz.ntmps7
  go_upto_region 1 with fail
  generalize World.alloc (World.alloc (w.alloc _) _) _ = W at *
  have k0 := HK0.out.cell
  have l0 := HK0.out.lt
  go_wp2_with fail
  refine (HC.out _ HB.out).mono ?_
  rintro e w1 ⟨s, rfl, ⟨A2, c2, A3, c3, Ab, nb, cb, Ai, ni, ci, Ao, no, co, rfl, ho, hsp⟩, hb⟩
  have hba := below_alloc' w1 (.cells #[.int .i64 ns.length, .slice A0 ns.length c0, .slice A1 6 c1, .slice A2 ns.length c2, .slice A3 (acn ns us f) c3, .slice Ab nb cb, .slice Ai ni ci, .slice Ao no co] 59)
  have HBA := Lib.hid (bthen (bthen HB.out hb) hba)
  have HK23 := Lib.hid ((HK2.out.below hb HK2.out.lt).below hba (HK2.out.below hb HK2.out.lt).lt)
  have HK3 := Lib.hid ((HK1.out.below hb HK1.out.lt).below hba (HK1.out.below hb HK1.out.lt).lt)
  clear ho hsp hb hba k0 l0
  go_upto_region 2 with fail
  generalize World.alloc w1 _ = w2 at *
  have k1 := HK3.out.cell
  have l1 := HK3.out.lt
  go_wp2_with fail
  refine (HFR.out _ HBA.out).mono ?_
  rintro e w3 ⟨rfl, hb⟩
  have HB3 := Lib.hid (bthen HBA.out hb)
  have hr1 := HK23.out.below hb HK23.out.lt
  have rc := hr1.cell
  have rf := hr1.frozen
  have rl := hr1.lt
  clear hb k1 l1 hr1
  go_wp2
  refine bodyPost_ret (v := .tuple #[.agg #[.int .i64 0, .slice none 0 0, .slice none 0 0], .int .i64 1]) (by simp [results, Tryz.results7, go_sem, rc, rf, rl]) rfl ⟨rfl, ?_⟩
  first | exact (((HB3.out).setCell (by show w.heap.size ≤ w.heap.size + 2; omega) _).setCell (by show w.heap.size ≤ w.heap.size + 2; omega) _).setCell (by show w.heap.size ≤ w.heap.size + 2; omega) _ | exact HB3.out
set_option maxRecDepth 100000 in
theorem impl_FiltrationModel_bad (n k : Int) (va vu vf vg : Value) (xs vs gs : List Int) (zs : List Nd) (w : World) (ha : Sl cI w va xs) (hu : Sl cI w vu vs) (hf : Sl cN w vf zs) (hg : Sl cI w vg gs) (hl : xs.length ≤ 1048576) (hl' : vs.length ≤ 1048576) (hl2 : zs.length ≤ 1048576) (hl3 : gs.length ≤ 1048576)
    (hc : fcode n xs vs zs = 1 ∨ (fcode n xs vs zs = 0 ∧ frOk k gs = false)) :
    Calls Tryz.prog 6 #[.agg #[.int .i64 n, va, vu], vf, .agg #[.int .i64 k, vg]] w fun e w' => e = .returned (.tuple #[.agg #[.int .i64 0, .slice none 0 0, .slice none 0 0], .int .i64 1]) ∧ Below w.heap.size w w' := by
  obtain ⟨A0, c0, rfl⟩ := ha.opn
  obtain ⟨A1, c1, rfl⟩ := hu.opn
  obtain ⟨A4, c4, rfl⟩ := hg.opn
  have hb0 := below_alloc' w (.cells #[.int .i64 n, .slice A0 xs.length c0, .slice A1 vs.length c1] 28)
  have hk0 := Blk.new w 28 #[.int .i64 n, .slice A0 xs.length c0, .slice A1 vs.length c1]
  have hb1 := below_alloc' (w.alloc (.cells #[.int .i64 n, .slice A0 xs.length c0, .slice A1 vs.length c1] 28)) (.cells #[.int .i64 k, .slice A4 gs.length c4] 26)
  have hk1 : Blk _ (w.heap.size + 1) _ _ := Blk.new' (w.alloc (.cells #[.int .i64 n, .slice A0 xs.length c0, .slice A1 vs.length c1] 28)) 26 #[.int .i64 k, .slice A4 gs.length c4] (by simp)
  have hb2 := below_alloc' ((w.alloc (.cells #[.int .i64 n, .slice A0 xs.length c0, .slice A1 vs.length c1] 28)).alloc (.cells #[.int .i64 k, .slice A4 gs.length c4] 26)) (.cells #[.int .i64 0, .slice none 0 0, .slice none 0 0] 28)
  have hk2 : Blk _ (w.heap.size + 2) _ _ := Blk.new' ((w.alloc (.cells #[.int .i64 n, .slice A0 xs.length c0, .slice A1 vs.length c1] 28)).alloc (.cells #[.int .i64 k, .slice A4 gs.length c4] 26)) 28 #[.int .i64 0, .slice none 0 0, .slice none 0 0] (by simp)
  have HB := Lib.hid (bthen (bthen hb0 hb1) hb2)
  have HK2 := Lib.hid hk2
  have HK0 := Lib.hid ((hk0.below hb1 hk0.lt).below hb2 (hk0.below hb1 hk0.lt).lt)
  have HK1 := Lib.hid (hk1.below hb2 hk1.lt)
  have HC := Lib.hid (fun W (hW : Below w.heap.size w W) => impl_modelCode n _ _ vf xs vs zs W (ha.below hW) (hu.below hW) (hf.below hW) hl hl' hl2)
  have HFR := Lib.hid (fun W (hW : Below w.heap.size w W) => impl_isFrame k _ gs W (hg.below hW) (by omega))
  have HX := Lib.hid hc
  clear hb2 hk2 hb0 hb1 hk0 hk1 ha hu hf hg hc
  go_enter Tryz.func6, Tryz.ntmps6
  go_upto_region 1 with fail
  generalize World.alloc (World.alloc (w.alloc _) _) _ = W at *
  have k0 := HK0.out.cell
  have l0 := HK0.out.lt
  go_wp2_with fail
  refine (HC.out _ HB.out).mono ?_
  rintro e w1 ⟨rfl, hb⟩
  have HB1 := Lib.hid (bthen HB.out hb)
  have HK3 := Lib.hid (HK1.out.below hb HK1.out.lt)
  have HK23 := Lib.hid (HK2.out.below hb HK2.out.lt)
  clear hb k0 l0
  have k1 := HK3.out.cell
  have l1 := HK3.out.lt
  have hx := HX.out
  rcases hx with hx | ⟨hx, hy⟩
  · rw [hx]
    clear hx k1 l1
    have rc := HK23.out.cell
    have rf := HK23.out.frozen
    have rl := HK23.out.lt
    go_wp2
    refine bodyPost_ret (v := .tuple #[.agg #[.int .i64 0, .slice none 0 0, .slice none 0 0], .int .i64 1]) (by simp [results, Tryz.results6, go_sem, rc, rf, rl]) rfl ⟨rfl, ?_⟩
    first | exact ((HB1.out.setCell (by show w.heap.size ≤ w.heap.size + 2; omega) _).setCell (by show w.heap.size ≤ w.heap.size + 2; omega) _).setCell (by show w.heap.size ≤ w.heap.size + 2; omega) _ | exact HB1.out
  · rw [hx]
    have HY := Lib.hid hy
    clear hx hy
    go_wp2_with fail
    refine (HFR.out _ HB1.out).mono ?_
    rintro e w2 ⟨rfl, hb⟩
    rw [HY.out]
    have HB2 := Lib.hid (bthen HB1.out hb)
    have hr1 := HK23.out.below hb HK23.out.lt
    have rc := hr1.cell
    have rf := hr1.frozen
    have rl := hr1.lt
    clear hb k1 hr1
    go_wp2
    refine bodyPost_ret (v := .tuple #[.agg #[.int .i64 0, .slice none 0 0, .slice none 0 0], .int .i64 1]) (by simp [results, Tryz.results6, go_sem, rc, rf, rl]) rfl ⟨rfl, ?_⟩
    first | exact ((HB2.out.setCell (by show w.heap.size ≤ w.heap.size + 2; omega) _).setCell (by show w.heap.size ≤ w.heap.size + 2; omega) _).setCell (by show w.heap.size ≤ w.heap.size + 2; omega) _ | exact HB2.out
/- Contracts of chapter 14: FiltrationModel where the frame is no filtration, both sides. -/
set_option maxHeartbeats 2000000 in
set_option maxRecDepth 100000 in
theorem spec_FiltrationModel_state (ns us gs : List Nat) (f : Fm) (A0 A1 A4 : Option Addr) (c0 c1 c4 : Nat) (v : Value) (w : World) (hm : Mdl w (.slice A0 ns.length c0) (.slice A1 6 c1) ns us) (h1 : MdN ns us) (h : Sl cN w v (enc f)) (hok : f.ok = true) (hl : (enc f).length ≤ 40) (hmk : mdOk ns.length (li ns) (li us) = true) (hfk : isF (enc f) = true) (hg : Sl cI w (.slice A4 gs.length c4) (li gs)) (hgr : RelN gs) (hfr : frOk gs.length (li gs) = true) (his : isf ns us f gs = false) :
    Calls Tryz.prog 7 #[.agg #[.int .i64 ns.length, .slice A0 ns.length c0, .slice A1 6 c1], v, .agg #[.int .i64 gs.length, .slice A4 gs.length c4]] w fun e w' => e = .returned (.tuple #[.agg #[.int .i64 0, .slice none 0 0, .slice none 0 0], .int .i64 5]) ∧ Below w.heap.size w w' := by
  obtain ⟨Af, cf, rfl⟩ := h.opn
  have hb0 := below_alloc' w (.cells #[.int .i64 ns.length, .slice A0 ns.length c0, .slice A1 6 c1] 28)
  have hk0 := Blk.new w 28 #[.int .i64 ns.length, .slice A0 ns.length c0, .slice A1 6 c1]
  have hb1 := below_alloc' (w.alloc (.cells #[.int .i64 ns.length, .slice A0 ns.length c0, .slice A1 6 c1] 28)) (.cells #[.int .i64 gs.length, .slice A4 gs.length c4] 26)
  have hk1 : Blk _ (w.heap.size + 1) _ _ := Blk.new' (w.alloc (.cells #[.int .i64 ns.length, .slice A0 ns.length c0, .slice A1 6 c1] 28)) 26 #[.int .i64 gs.length, .slice A4 gs.length c4] (by simp)
  have hb2 := below_alloc' ((w.alloc (.cells #[.int .i64 ns.length, .slice A0 ns.length c0, .slice A1 6 c1] 28)).alloc (.cells #[.int .i64 gs.length, .slice A4 gs.length c4] 26)) (.cells #[.int .i64 0, .slice none 0 0, .slice none 0 0] 28)
  have hk2 : Blk _ (w.heap.size + 2) _ _ := Blk.new' ((w.alloc (.cells #[.int .i64 ns.length, .slice A0 ns.length c0, .slice A1 6 c1] 28)).alloc (.cells #[.int .i64 gs.length, .slice A4 gs.length c4] 26)) 28 #[.int .i64 0, .slice none 0 0, .slice none 0 0] (by simp)
  have HB := Lib.hid (bthen (bthen hb0 hb1) hb2)
  have HK0 := Lib.hid ((hk0.below hb1 hk0.lt).below hb2 (hk0.below hb1 hk0.lt).lt)
  have HK1 := Lib.hid (hk1.below hb2 hk1.lt)
  have HK2 := Lib.hid hk2
  have H1 := Lib.hid h1
  have HG := Lib.hid hg
  have HGR := Lib.hid hgr
  have E4 := Lib.hid (li_length gs)
  have E2 := Lib.hid (show (li us).length = 6 by rw [li_length, h1.l])
  have HC := Lib.hid (fun W (hW : Below w.heap.size w W) => spec_l14Code_ok ns us f A0 A1 c0 c1 _ W (hm.below hW) h1 (h.below hW) hok hl hmk hfk)
  have HFR := Lib.hid (fun W (hW : Below w.heap.size w W) => hfr ▸ spec_l05Is gs.length _ (li gs) W (hg.below hW) (by rw [E4.out]; have := hgr.1; omega))
  have HVr := Lib.hid (fun W (hW : Below w.heap.size w W) => spec_l02Variables _ (enc f) W (h.below hW) (by omega) (isF_nodes hfk))
  have HOn := Lib.hid (fun W (hW : Below w.heap.size w W) => spec_l01Own _ (li gs) W (hg.below hW) (by rw [E4.out]; have := hgr.1; omega))
  have HU := Lib.hid hm.u
  have HV6 := Lib.hid (show vmask (enc f) < 2 ^ 6 from vmask_lt (enc f) (enc_nodes f hok))
  have HL := Lib.hid hl
  have HIS := Lib.hid his
  clear hb0 hb1 hk0 hk1 hb2 hk2 hm h hmk hfk h1 hl hg hgr hfr his
  go_enter Tryz.func7, Tryz.ntmps7
  go_upto_region 1 with fail
  generalize World.alloc (World.alloc (w.alloc _) _) _ = W at *
  have k0 := HK0.out.cell
  have l0 := HK0.out.lt
  go_wp2_with fail
  refine (HC.out _ HB.out).mono ?_
  rintro e w1 ⟨s, rfl, ⟨A2, c2, A3, c3, Ab, nb, cb, Ai, ni, ci, Ao, no, co, rfl, ho, hsp⟩, hb⟩
  have HB1 := Lib.hid (bthen HB.out hb)
  have hba := below_alloc' w1 (.cells #[.int .i64 ns.length, .slice A0 ns.length c0, .slice A1 6 c1, .slice A2 ns.length c2, .slice A3 (acn ns us f) c3, .slice Ab nb cb, .slice Ai ni ci, .slice Ao no co] 59)
  have hbk := Blk.new w1 59 #[.int .i64 ns.length, .slice A0 ns.length c0, .slice A1 6 c1, .slice A2 ns.length c2, .slice A3 (acn ns us f) c3, .slice Ab nb cb, .slice Ai ni ci, .slice Ao no co]
  have HBA := Lib.hid (bthen HB1.out hba)
  have HBK := Lib.hid hbk
  have HSQ := Lib.hid (hsp.below hba)
  have HK30 := Lib.hid ((HK0.out.below hb HK0.out.lt).below hba (HK0.out.below hb HK0.out.lt).lt)
  have HK31 := Lib.hid ((HK1.out.below hb HK1.out.lt).below hba (HK1.out.below hb HK1.out.lt).lt)
  have HK32 := Lib.hid ((HK2.out.below hb HK2.out.lt).below hba (HK2.out.below hb HK2.out.lt).lt)
  clear ho hsp hb hba hbk k0 l0 HK0 HK1 HK2 HB HB1
  go_upto_region 2 with fail
  generalize World.alloc w1 _ = w2 at *
  have k1 := HK31.out.cell
  have l1 := HK31.out.lt
  go_wp2_with fail
  refine (HFR.out _ HBA.out).mono ?_
  rintro e w3 ⟨rfl, hb⟩
  have HB3 := Lib.hid (bthen HBA.out hb)
  have HBK3 := Lib.hid (HBK.out.below hb HBK.out.lt)
  have HK40 := Lib.hid (HK30.out.below hb HK30.out.lt)
  have HK41 := Lib.hid (HK31.out.below hb HK31.out.lt)
  have HK42 := Lib.hid (HK32.out.below hb HK32.out.lt)
  have HS3 := Lib.hid (HSQ.out.below hb)
  clear hb k1 l1 HK30 HK31 HK32 HBK HSQ HBA HFR
  have kS := HBK3.out.cell
  have lS := HBK3.out.lt
  have k1 := HK41.out.cell
  have l1 := HK41.out.lt
  go_wp2_with fail
  refine (spec_l14Between ns us gs f A0 A1 A2 A3 A4 c0 c1 c2 c3 c4 Ab Ai Ao nb cb ni ci no co _ HS3.out H1.out (by have := HL.out; omega) (HG.out.below HB3.out) HGR.out).mono ?_
  rintro e w4 ⟨rfl, hb⟩
  rw [HIS.out]
  have HB4 := Lib.hid (bthen HB3.out hb)
  have hr1 := HK42.out.below hb HK42.out.lt
  have rc := hr1.cell
  have rf := hr1.frozen
  have rl := hr1.lt
  clear hb kS k1 hr1
  go_wp2
  refine bodyPost_ret (v := .tuple #[.agg #[.int .i64 0, .slice none 0 0, .slice none 0 0], .int .i64 5]) (by simp [results, Tryz.results7, go_sem, rc, rf, rl]) rfl ⟨rfl, ?_⟩
  first | exact ((HB4.out.setCell (by show w.heap.size ≤ w.heap.size + 2; omega) _).setCell (by show w.heap.size ≤ w.heap.size + 2; omega) _).setCell (by show w.heap.size ≤ w.heap.size + 2; omega) _ | exact HB4.out
set_option maxHeartbeats 2000000 in
set_option maxRecDepth 100000 in
theorem impl_FiltrationModel_state (ns us gs : List Nat) (f : Fm) (A0 A1 A4 : Option Addr) (c0 c1 c4 : Nat) (v : Value) (w : World) (hm : Mdl w (.slice A0 ns.length c0) (.slice A1 6 c1) ns us) (h1 : MdN ns us) (h : Sl cN w v (enc f)) (hok : f.ok = true) (hl : (enc f).length ≤ 40) (hmk : mdOk ns.length (li ns) (li us) = true) (hfk : isF (enc f) = true) (hg : Sl cI w (.slice A4 gs.length c4) (li gs)) (hgr : RelN gs) (hfr : frOk gs.length (li gs) = true) (his : isf ns us f gs = false) :
    Calls Tryz.prog 6 #[.agg #[.int .i64 ns.length, .slice A0 ns.length c0, .slice A1 6 c1], v, .agg #[.int .i64 gs.length, .slice A4 gs.length c4]] w fun e w' => e = .returned (.tuple #[.agg #[.int .i64 0, .slice none 0 0, .slice none 0 0], .int .i64 5]) ∧ Below w.heap.size w w' := by
  obtain ⟨Af, cf, rfl⟩ := h.opn
  have hb0 := below_alloc' w (.cells #[.int .i64 ns.length, .slice A0 ns.length c0, .slice A1 6 c1] 28)
  have hk0 := Blk.new w 28 #[.int .i64 ns.length, .slice A0 ns.length c0, .slice A1 6 c1]
  have hb1 := below_alloc' (w.alloc (.cells #[.int .i64 ns.length, .slice A0 ns.length c0, .slice A1 6 c1] 28)) (.cells #[.int .i64 gs.length, .slice A4 gs.length c4] 26)
  have hk1 : Blk _ (w.heap.size + 1) _ _ := Blk.new' (w.alloc (.cells #[.int .i64 ns.length, .slice A0 ns.length c0, .slice A1 6 c1] 28)) 26 #[.int .i64 gs.length, .slice A4 gs.length c4] (by simp)
  have hb2 := below_alloc' ((w.alloc (.cells #[.int .i64 ns.length, .slice A0 ns.length c0, .slice A1 6 c1] 28)).alloc (.cells #[.int .i64 gs.length, .slice A4 gs.length c4] 26)) (.cells #[.int .i64 0, .slice none 0 0, .slice none 0 0] 28)
  have hk2 : Blk _ (w.heap.size + 2) _ _ := Blk.new' ((w.alloc (.cells #[.int .i64 ns.length, .slice A0 ns.length c0, .slice A1 6 c1] 28)).alloc (.cells #[.int .i64 gs.length, .slice A4 gs.length c4] 26)) 28 #[.int .i64 0, .slice none 0 0, .slice none 0 0] (by simp)
  have HB := Lib.hid (bthen (bthen hb0 hb1) hb2)
  have HK0 := Lib.hid ((hk0.below hb1 hk0.lt).below hb2 (hk0.below hb1 hk0.lt).lt)
  have HK1 := Lib.hid (hk1.below hb2 hk1.lt)
  have HK2 := Lib.hid hk2
  have HM := Lib.hid hm
  have H1 := Lib.hid h1
  have HG := Lib.hid hg
  have HGR := Lib.hid hgr
  have E1 := Lib.hid (li_length ns)
  have E2 := Lib.hid (show (li us).length = 6 by rw [li_length, h1.l])
  have E4 := Lib.hid (li_length gs)
  have HX : Hid (fcode ns.length (li ns) (li us) (enc f) = 0) := Lib.hid (by unfold fcode; rw [hmk, hfk]; rfl)
  have HC := Lib.hid (fun W (hW : Below w.heap.size w W) => HX.out ▸ impl_modelCode ns.length _ _ _ (li ns) (li us) (enc f) W (hm.a.below hW) (hm.u.below hW) (h.below hW) (by rw [E1.out]; have := h1.r.1; omega) (by rw [E2.out]; omega) (by omega))
  have HFR := Lib.hid (fun W (hW : Below w.heap.size w W) => hfr ▸ impl_isFrame gs.length _ (li gs) W (hg.below hW) (by rw [E4.out]; have := hgr.1; omega))
  have HN := Lib.hid (fun W (hW : Below w.heap.size w W) => impl_newFilter ns us f A0 A1 c0 c1 _ W (hm.below hW) h1 (h.below hW) hok hl)
  have HIS := Lib.hid (fun F A cc bx dm W (hF : Fil W F ns us f A0 A1 A c0 c1 cc (.slice Af (enc f).length cf) bx dm) (hW : Below w.heap.size w W) => his ▸ impl_isFiltration ns us gs f F A0 A1 A A4 c0 c1 cc c4 _ bx dm W hF h1 (by omega) (hg.below hW) hgr)
  have HV := Lib.hid h
  have HL := Lib.hid hl
  have HFK := Lib.hid hfk
  clear hb0 hb1 hk0 hk1 hb2 hk2 hm h hmk hfk h1 hl hg hgr hfr his
  go_enter Tryz.func6, Tryz.ntmps6
  go_upto_region 1 with fail
  generalize World.alloc (World.alloc (w.alloc _) _) _ = W at *
  have k0 := HK0.out.cell
  have l0 := HK0.out.lt
  go_wp2_with fail
  refine (HC.out _ HB.out).mono ?_
  rintro e w1 ⟨rfl, hb⟩
  have HB1 := Lib.hid (bthen HB.out hb)
  have HKa0 := Lib.hid (HK0.out.below hb l0)
  have HKa1 := Lib.hid (HK1.out.below hb HK1.out.lt)
  have HKa2 := Lib.hid (HK2.out.below hb HK2.out.lt)
  clear hb k0 l0 HK0 HK1 HK2 HB HC
  have k1 := HKa1.out.cell
  have l1 := HKa1.out.lt
  go_wp2_with fail
  refine (HFR.out _ HB1.out).mono ?_
  rintro e w2 ⟨rfl, hb⟩
  have HB2 := Lib.hid (bthen HB1.out hb)
  have HKb0 := Lib.hid (HKa0.out.below hb HKa0.out.lt)
  have HKb1 := Lib.hid (HKa1.out.below hb HKa1.out.lt)
  have HKb2 := Lib.hid (HKa2.out.below hb HKa2.out.lt)
  clear hb k1 l1 HKa0 HKa1 HKa2 HB1 HFR
  have k0 := HKb0.out.cell
  have l0 := HKb0.out.lt
  go_wp2_with fail
  refine (HN.out _ HB2.out).mono ?_
  rintro e w3 ⟨F, A, cc, bx, dm, rfl, hF, hbl, ho, hbx, hdm, hb⟩
  have HB3 := Lib.hid (bthen HB2.out hb)
  have HFil : Hid (Fil w3 F ns us f A0 A1 A c0 c1 cc (.slice Af (enc f).length cf) bx dm) := Lib.hid ⟨hbl, HM.out.below HB3.out, ho.sl, hbx, hdm⟩
  have HKc0 := Lib.hid (HKb0.out.below hb HKb0.out.lt)
  have HKc1 := Lib.hid (HKb1.out.below hb HKb1.out.lt)
  have HKc2 := Lib.hid (HKb2.out.below hb HKb2.out.lt)
  clear hb k0 l0 ho hbl hbx hdm HKb0 HKb1 HKb2 HB2 HN
  have k1 := HKc1.out.cell
  have l1 := HKc1.out.lt
  go_wp2_with fail
  refine (HIS.out _ _ _ _ _ _ HFil.out HB3.out).mono ?_
  rintro e w4 ⟨rfl, hb⟩
  have HB4 := Lib.hid (bthen HB3.out hb)
  have hr1 := HKc2.out.below hb HKc2.out.lt
  have rc := hr1.cell
  have rf := hr1.frozen
  have rl := hr1.lt
  clear hb k1 hr1
  go_wp2
  refine bodyPost_ret (v := .tuple #[.agg #[.int .i64 0, .slice none 0 0, .slice none 0 0], .int .i64 5]) (by simp [results, Tryz.results6, go_sem, rc, rf, rl]) rfl ⟨rfl, ?_⟩
  first | exact ((HB4.out.setCell (by show w.heap.size ≤ w.heap.size + 2; omega) _).setCell (by show w.heap.size ≤ w.heap.size + 2; omega) _).setCell (by show w.heap.size ≤ w.heap.size + 2; omega) _ | exact HB4.out
end Go.Proofs.YtboldkahppdmbaaGreatDoor
