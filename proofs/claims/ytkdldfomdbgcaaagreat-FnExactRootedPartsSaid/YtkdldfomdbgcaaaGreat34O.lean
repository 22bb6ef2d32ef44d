/- Contracts of parts of orders: posetOf, on, cone of the program; l16Make of the reference. Written by gen34O.py. -/
import Derived.Test.YtkdldfomdbgcaaaGreat24A
import Derived.Test.YtkdldfomdbgcaaaGreat34S
namespace Go.Proofs.YtkdldfomdbgcaaaGreat
open Go.RowKit
set_option linter.unusedVariables false
set_option linter.unusedSimpArgs false
theorem impl_posetOf (v : Value) (xs : List Int) (w : World) (h : Sl cI w v xs) :
    Calls Tryz.prog 55 #[v] w fun e w' => e = .returned (.agg #[.int .i64 xs.length, v]) ∧ Below w.heap.size w w' := by
  obtain ⟨A0, c0, rfl⟩ := h.opn
  have HS := Lib.hid h
  clear h
  have A := Lib.hid (Below.refl w.heap.size w)
  go_enter Tryz.func55, Tryz.ntmps55
  go_upto_region 1 with fail
  have hb := below_alloc' w (.cells #[.int .i64 0, .slice none 0 0] 29)
  have HK : Hid (Blk (World.alloc w (.cells #[.int .i64 0, .slice none 0 0] 29)) w.heap.size 29 #[.int .i64 0, .slice none 0 0]) := Lib.hid (Blk.new w 29 #[.int .i64 0, .slice none 0 0])
  replace HS := Lib.hid (HS.out.below hb)
  replace A := Lib.hid (bthen A.out hb)
  clear hb
  generalize World.alloc w _ = w1 at *
  go_wp2_with fail
  refine (impl_size_int64 _ xs _ HS.out).mono ?_
  rintro e w2 ⟨rfl, rfl⟩
  have rc := HK.out.cell
  have rf := HK.out.frozen
  have rl := HK.out.lt
  clear HK HS
  go_wp2
  refine bodyPost_ret (v := .agg #[.int .i64 xs.length, .slice A0 xs.length c0]) (by simp [results, Tryz.results55, go_sem, rc, rf, rl]) rfl ⟨rfl, ?_⟩
  exact (A.out.setCell (Nat.le_refl _) _).setCell (Nat.le_refl _) _
set_option maxRecDepth 100000 in
theorem impl_on (ns : List Nat) (on : Nat) (v : Value) (w : World) (h : Sl cI w v (li ns)) (hr : RelN ns) (ho : on < 2 ^ ns.length) :
    Calls Tryz.prog 84 #[.agg #[.int .i64 (ns.length : Int), v], .int .i64 (on : Int)] w fun e w' => ∃ A c, e = .returned (.agg #[.int .i64 ((ptr ns on).length : Int), .slice A (ptr ns on).length c]) ∧ Ow cI 2 w.heap.size w' (.slice A (ptr ns on).length c) (li (ptr ns on)) ∧ Below w.heap.size w w' := by
  obtain ⟨A0, c0, rfl⟩ := h.opn
  have HL := Lib.hid (li_length ns)
  rw [HL.out] at h ⊢
  have HX := Lib.hid h
  have HPt := Lib.hid (fun W (hW : Sl cI W (.slice A0 ns.length c0) (li ns)) => impl_partOn _ ns on W hW hr ho)
  have HPL := Lib.hid (li_length (ptr ns on))
  have HPo := Lib.hid (fun u W (hW : Sl cI W u (li (ptr ns on))) => impl_posetOf u _ W hW)
  have A := Lib.hid (Below.refl w.heap.size w)
  clear h hr ho
  go_enter Tryz.func84, Tryz.ntmps84
  go_upto_region 1 with fail
  have hb := bthen (below_alloc' w (.cells #[.int .i64 ns.length, .slice A0 ns.length c0] 29)) (below_alloc' (World.alloc w (.cells #[.int .i64 ns.length, .slice A0 ns.length c0] 29)) (.cells #[.int .i64 0, .slice none 0 0] 29))
  have T1 := Lib.hid (Bk.new1 w #[.int .i64 ns.length, .slice A0 ns.length c0] 29 (.cells #[.int .i64 0, .slice none 0 0] 29))
  have HK : Hid (Blk (World.alloc (World.alloc w (.cells #[.int .i64 ns.length, .slice A0 ns.length c0] 29)) (.cells #[.int .i64 0, .slice none 0 0] 29)) (w.heap.size + 1) 29 #[.int .i64 0, .slice none 0 0]) := Lib.hid (Blk.new' _ 29 #[.int .i64 0, .slice none 0 0] (by simp))
  replace HX := Lib.hid (HX.out.below hb)
  replace A := Lib.hid (bthen A.out hb)
  clear hb
  generalize World.alloc (World.alloc w _) _ = w1 at *
  have T1s := T1.out.1
  have T1c := T1.out.2
  go_wp2_with fail
  clear T1s T1c
  refine (HPt.out _ HX.out).mono ?_
  rintro e w2 ⟨u, rfl, hO, hb⟩
  have hk1 := HK.out.lt
  have O := Lib.hid hO
  replace HK := Lib.hid (HK.out.below hb HK.out.lt)
  replace A := Lib.hid (bthen A.out hb)
  have ZA : Hid (w.heap.size + 1 < w1.heap.size) := Lib.hid hk1
  clear hb hO T1 HX hk1
  obtain ⟨A3, c3, rfl⟩ := O.out.opn
  rw [HPL.out] at O ⊢
  go_wp2_with fail
  refine (HPo.out _ _ O.out.sl).mono ?_
  rintro e w3 ⟨rfl, hb⟩
  replace HK := Lib.hid (HK.out.below hb HK.out.lt)
  replace A := Lib.hid (bthen A.out hb)
  replace O := Lib.hid (O.out.below hb)
  rw [HPL.out]
  have rc := HK.out.cell
  have rf := HK.out.frozen
  have rl := HK.out.lt
  have zA := ZA.out
  clear hb
  go_wp2
  refine bodyPost_ret (v := .agg #[.int .i64 ((ptr ns on).length : Int), .slice A3 (ptr ns on).length c3]) (by simp [results, Tryz.results84, go_sem, rc, rf, rl]) rfl ⟨_, _, rfl, ?_, ?_⟩
  · exact ((O.out.setBelow zA _).setBelow zA _).mono (by omega)
  · exact (A.out.setCell (Nat.le_succ _) _).setCell (Nat.le_succ _) _
theorem spec_l16Make (v : Value) (xs : List Int) (w : World) (h : Sl cI w v xs) (hl : xs.length ≤ 1048576) :
    Calls Tryz.prog 43 #[v] w fun e w' => ∃ A c, e = .returned (.agg #[.int .i64 xs.length, .slice A xs.length c]) ∧ Ow cI 2 w.heap.size w' (.slice A xs.length c) xs ∧ Below w.heap.size w w' := by
  obtain ⟨A0, c0, rfl⟩ := h.opn
  have HS := Lib.hid h
  clear h
  have A := Lib.hid (Below.refl w.heap.size w)
  go_enter Tryz.func43, Tryz.ntmps43
  go_upto_region 1 with fail
  have hb := below_alloc' w (.cells #[.int .i64 0, .slice none 0 0] 29)
  have HK : Hid (Blk (World.alloc w (.cells #[.int .i64 0, .slice none 0 0] 29)) w.heap.size 29 #[.int .i64 0, .slice none 0 0]) := Lib.hid (Blk.new w 29 #[.int .i64 0, .slice none 0 0])
  replace HS := Lib.hid (HS.out.below hb)
  replace A := Lib.hid (bthen A.out hb)
  clear hb
  generalize World.alloc w _ = w1 at *
  go_wp2_with fail
  refine (spec_l01Own _ xs _ HS.out (by omega)).mono ?_
  rintro e w2 ⟨u, rfl, ho, hb⟩
  obtain ⟨A1, c1, rfl⟩ := ho.opn
  have hk1 := HK.out.lt
  have r := HK.out.below hb hk1
  have rc := r.cell
  have rf := r.frozen
  have rl := r.lt
  have B2 := Lib.hid (bthen A.out hb)
  have HO := Lib.hid ho
  clear hb A HK HS r ho
  go_wp2
  refine bodyPost_ret (v := .agg #[.int .i64 xs.length, .slice A1 xs.length c1]) (by simp [results, Tryz.results43, go_sem, rc, rf, rl]) rfl ⟨_, _, rfl, ?_, ?_⟩
  · exact ((HO.out.setBelow hk1 _).setBelow hk1 _).mono (by omega)
  · exact (B2.out.setCell (Nat.le_refl _) _).setCell (Nat.le_refl _) _
set_option maxRecDepth 100000 in
theorem impl_cone (ns : List Nat) (x : Nat) (v : Value) (w : World) (h : Sl cI w v (li ns)) (hr : RelN ns) (hx : x < ns.length) :
    Calls Tryz.prog 52 #[.agg #[.int .i64 (ns.length : Int), v], .int .i64 (x : Int)] w fun e w' => ∃ A c, e = .returned (.agg #[.int .i64 ((ptr ns (ns.getD x 0)).length : Int), .slice A (ptr ns (ns.getD x 0)).length c]) ∧ Ow cI 2 w.heap.size w' (.slice A (ptr ns (ns.getD x 0)).length c) (li (ptr ns (ns.getD x 0))) ∧ Below w.heap.size w w' := by
  obtain ⟨A0, c0, rfl⟩ := h.opn
  have EL := Lib.hid (li_length ns)
  rw [EL.out] at h ⊢
  obtain ⟨b, o, rfl, hbw, hcw⟩ := h.atI (k := x) (by rw [EL.out]; exact hx)
  rw [li_get] at hcw
  have HX := Lib.hid h
  have HBW := Lib.hid hbw
  have HOn := Lib.hid (fun W (hW : Sl cI W (.slice (some ⟨b, o, none⟩) ns.length c0) (li ns)) => impl_on ns (ns.getD x 0) _ W hW hr (getD_lt hr.2 x))
  have HGx := Lib.hid (fun W (hW : Sl cI W (.slice (some ⟨b, o, none⟩) ns.length c0) (li ns)) => show W.cell? ⟨b, o + x, none⟩ = some (.int .i64 (ns.getD x 0 : Nat)) from by
    obtain ⟨b', o', e, -, hc⟩ := hW.atI (k := x) (by rw [EL.out]; exact hx)
    injection e with e
    injection e with e1 e2
    subst e1; subst e2
    rwa [li_get] at hc)
  have A := Lib.hid (Below.refl w.heap.size w)
  clear h hr hcw
  generalize ptr ns (ns.getD x 0) = P at *
  generalize ns.getD x 0 = m at *
  go_enter Tryz.func52, Tryz.ntmps52
  go_upto_region 1 with fail
  have hb := bthen (below_alloc' w (.cells #[.int .i64 ns.length, .slice (some ⟨b, o, none⟩) ns.length c0] 29)) (below_alloc' (World.alloc w (.cells #[.int .i64 ns.length, .slice (some ⟨b, o, none⟩) ns.length c0] 29)) (.cells #[.int .i64 0, .slice none 0 0] 29))
  have T1 : Hid (Blk (World.alloc (World.alloc w (.cells #[.int .i64 ns.length, .slice (some ⟨b, o, none⟩) ns.length c0] 29)) (.cells #[.int .i64 0, .slice none 0 0] 29)) w.heap.size 29 #[.int .i64 ns.length, .slice (some ⟨b, o, none⟩) ns.length c0]) := Lib.hid ((Blk.new w _ _).alloc _)
  have HK : Hid (Blk (World.alloc (World.alloc w (.cells #[.int .i64 ns.length, .slice (some ⟨b, o, none⟩) ns.length c0] 29)) (.cells #[.int .i64 0, .slice none 0 0] 29)) (w.heap.size + 1) 29 #[.int .i64 0, .slice none 0 0]) := Lib.hid (Blk.new' _ 29 #[.int .i64 0, .slice none 0 0] (by simp))
  replace HX := Lib.hid (HX.out.below hb)
  replace A := Lib.hid (bthen A.out hb)
  clear hb hbw
  generalize World.alloc (World.alloc w _) _ = w1 at *
  have a0 := T1.out.cell 0
  have a1 := T1.out.cell 1
  have a2 := T1.out.lt
  have a3 := HGx.out _ HX.out
  go_wp2
  go_still_tail 6, (by kernel_rfl)
  repeat still_step
  first | refine wpStill_nil ?_ | skip
  change wpList _ _ _ _ _ (World.drew _)
  have hd := below_drewN (Below.refl w1.heap.size w1) 1
  replace HX := Lib.hid (HX.out.below hd)
  replace HK := Lib.hid (HK.out.below hd HK.out.lt)
  replace A := Lib.hid (bthen A.out hd)
  change Hid (Sl cI (World.drew w1) _ _) at HX
  change Hid (Blk (World.drew w1) _ _ _) at HK
  change Hid (Below _ w (World.drew w1)) at A
  clear hd a0 a1 a2 a3 T1
  generalize World.drew w1 = w2 at *
  go_wp2_with fail
  refine (HOn.out _ HX.out).mono ?_
  rintro e w3 ⟨A3, c3, rfl, hO, hb⟩
  have hk1 := HK.out.lt
  have O := Lib.hid hO
  have ZA : Hid (w.heap.size + 1 < w2.heap.size) := Lib.hid hk1
  replace HK := Lib.hid (HK.out.below hb HK.out.lt)
  replace A := Lib.hid (bthen A.out hb)
  clear hb hO HX hk1
  have rc := HK.out.cell
  have rf := HK.out.frozen
  have rl := HK.out.lt
  have zA := ZA.out
  go_wp2
  refine bodyPost_ret (v := .agg #[.int .i64 (P.length : Int), .slice A3 P.length c3]) (by simp [results, Tryz.results52, go_sem, rc, rf, rl]) rfl ⟨_, _, rfl, ?_, ?_⟩
  · exact ((O.out.setBelow zA _).setBelow zA _).mono (by omega)
  · exact (A.out.setCell (Nat.le_succ _) _).setCell (Nat.le_succ _) _
end Go.Proofs.YtkdldfomdbgcaaaGreat
