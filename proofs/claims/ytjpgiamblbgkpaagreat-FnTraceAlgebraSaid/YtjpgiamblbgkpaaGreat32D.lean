/- The reference's drawing of a Trace: what it returns is some Trace in memory of its own, and it changes its source alone. -/
import Derived.Test.YtjpgiamblbgkpaaGreatDr
import Derived.Test.YtjpgiamblbgkpaaGreatSch
import Derived.Test.YtjpgiamblbgkpaaGreatB4
import Derived.Test.YtjpgiamblbgkpaaGreatApw
namespace Go.Proofs.YtjpgiamblbgkpaaGreat
open Go.RowKit
set_option linter.unusedVariables false
set_option linter.unusedSimpArgs false
theorem gr_far {w X Y : World} {g : Nat} {row : Option Nat} (h : w.grownBy X (some g)) (k : X.grownBy Y row) (hr : ∀ k, row = some k → k = g ∨ w.heap.size ≤ k) : w.grownBy Y (some g) :=
  ⟨k.os.trans h.os, k.tape.trans h.tape, k.output.trans h.output, Nat.le_trans h.size k.size, fun i hi hne =>
    (k.block i (Nat.lt_of_lt_of_le hi h.size) (fun e => (hr i e.symm).elim (fun e => hne (by rw [e])) (fun e => by omega))).trans (h.block i hi hne)⟩
theorem gr_below {w X Y : World} {g : Nat} (h : w.grownBy X (some g)) (k : Below X.heap.size X Y) : w.grownBy Y (some g) :=
  ⟨k.os.trans h.os, k.tape.trans h.tape, k.output.trans h.output, Nat.le_trans h.size k.size, fun i hi hne => (k.block i (Nat.lt_of_lt_of_le hi h.size)).trans (h.block i hi hne)⟩
theorem gr_set {w X : World} {g : Nat} (h : w.grownBy X (some g)) {p : Addr} (hp : p.block = g ∨ w.heap.size ≤ p.block) (u : Value) : w.grownBy (X.setCell p u) (some g) :=
  gr_far h (row := some p.block) ⟨rfl, rfl, rfl, by simp [World.setCell], fun i _ hne => Below.heap_setCell _ _ _ _ (fun e => hne (by rw [e]))⟩ (fun k e => by injection e with e; subst e; exact hp)
/-- a Trace that is being drawn: its box r, its list in memory from p on, the source in g -/
structure Dn (w0 : World) (v : Value) (xs : List (Fin 256)) (g : Nat) (w : World) (p r : Nat) (b : Bool) (u : Value) (L : List Int) (X : World) : Prop where
  S : Src 64 w0 v xs X g
  blk : Blk X r 26 #[.bool b, u]
  res : Blk X w.heap.size 26 #[.bool false, .slice none 0 0]
  o : Ow cI 2 p X u L
  ne : u.ownBlock ≠ some r
  gr : w.grownBy X (some g)
  lt : g < w.heap.size
  lp : w.heap.size < p
  lr : p ≤ r
section
variable {w0 : World} {v : Value} {xs : List (Fin 256)} {g : Nat} {w : World} {p r : Nat} {b : Bool} {u : Value} {L : List Int} {X Y : World}
theorem Dn.below (h : Dn w0 v xs g w p r b u L X) (hb : Below X.heap.size X Y) : Dn w0 v xs g w p r b u L Y :=
  ⟨h.S.below hb, h.blk.below hb h.blk.lt, h.res.below hb h.res.lt, h.o.below hb, h.ne, gr_below h.gr hb, h.lt, h.lp, h.lr⟩
theorem Dn.call (h : Dn w0 v xs g w p r b u L X) (hS : Src 64 w0 v xs Y g) (hg : X.grownBy Y (some g)) : Dn w0 v xs g w p r b u L Y :=
  have h1 := h.lt
  have h2 := h.lp
  have h3 := h.lr
  ⟨hS, h.blk.grown hg (fun e => by injection e; omega), h.res.grown hg (fun e => by injection e; omega), h.o.kept hg (by
    cases hv : u.ownBlock with
    | none => exact .inl rfl
    | some k => exact .inr (fun e => by injection e; have := h.o.block k hv; omega)), h.ne, gr_far h.gr hg (fun k e => .inl (by injection e with e; exact e.symm)), h.lt, h.lp, h.lr⟩
/-- another list, from p on, stored into the box -/
theorem Dn.put (h : Dn w0 v xs g w p r b u L X) {u1 : Value} {L1 : List Int} {row : Option Nat} (ho : Ow cI 2 p Y u1 L1) (hg : X.grownBy Y row) (hr : ∀ k, row = some k → p ≤ k ∧ k ≠ r) (hne : u1.ownBlock ≠ some r) :
    Blk Y r 26 #[.bool b, u] ∧ Dn w0 v xs g w p r b u1 L1 (Y.setCell ⟨r, 1, none⟩ u1) := by
  have h1 := h.lt
  have h2 := h.lp
  have h3 := h.lr
  have h4 := h.S.lo
  have hk : Blk Y r 26 #[.bool b, u] := h.blk.grown hg (fun e => (hr r e.symm).2 rfl)
  have hS : Src 64 w0 v xs Y g := h.S.grown hg (fun k e => by have := hr k e; omega)
  exact ⟨hk, hS.far (fun e => by have e' : r = g := e; omega) (by show w0.heap.size ≤ r; omega) _, hk.set_ 1 _, (h.res.grown hg (fun e => by have := hr _ e.symm; omega)).far (fun e => by have e' : w.heap.size = r := e; omega) _, ho.far hne _, hne,
    gr_set (gr_far h.gr hg (fun k e => .inr (by have := hr k e; omega))) (.inr (by show w.heap.size ≤ r; omega)) _, h1, h2, h3⟩
theorem Dn.push0 (h : Dn w0 v xs g w p r b u L X) {u1 : Value} {j : Int} (ho : Ow cI 2 p Y u1 (L ++ [j])) (hg : X.grownBy Y u.ownBlock) (hat : u1.ownBlock = u.ownBlock ∨ u1.ownBlock = some X.heap.size) :
    Blk Y r 26 #[.bool b, u] ∧ Dn w0 v xs g w p r b u1 (L ++ [j]) (Y.setCell ⟨r, 1, none⟩ u1) := by
  refine h.put ho hg (fun k e => ⟨(h.o.block k e).1, fun e' => h.ne (by rw [e, e'])⟩) ?_
  intro e
  rcases hat with h1 | h1
  · exact h.ne (h1 ▸ e)
  · rw [h1] at e
    injection e with e
    have := h.blk.lt
    omega
theorem Dn.push (h : Dn w0 v xs g w p r b u L X) {u1 : Value} {j : Int} {cs : Array Value} (ho : Ow cI 2 p Y u1 (L ++ [j])) (hg : (X.alloc (.cells cs 2)).grownBy Y u.ownBlock) (hat : u1.ownBlock = u.ownBlock ∨ u1.ownBlock = some (X.heap.size + 1)) :
    Blk Y r 26 #[.bool b, u] ∧ Dn w0 v xs g w p r b u1 (L ++ [j]) (Y.setCell ⟨r, 1, none⟩ u1) := by
  refine h.put ho (grown_alloc _ hg) (fun k e => ⟨(h.o.block k e).1, fun e' => h.ne (by rw [e, e'])⟩) ?_
  intro e
  rcases hat with h1 | h1
  · exact h.ne (h1 ▸ e)
  · rw [h1] at e
    injection e with e
    have := h.blk.lt
    omega
end
set_option maxRecDepth 100000 in
theorem spec_l32Drawn (w0 : World) (v : Value) (xs : List (Fin 256)) (w : World) (g : Nat) (S : Src 64 w0 v xs w g) :
    Calls Tryz.prog 20 #[.pointer (some ⟨g, 0, none⟩)] w fun e w' => ∃ (b : Bool) (u : Value) (L : List Int), e = .returned (.agg #[.bool b, u]) ∧ L.length ≤ 100 ∧ Ow cI 2 w.heap.size w' u L ∧ Src 64 w0 v xs w' g ∧ w.grownBy w' (some g) := by
  have hlt := S.lt
  have hb0 := below_alloc' w (.cells #[.bool false, .slice none 0 0] 26)
  have HR0 := Lib.hid (Blk.new w 26 #[.bool false, .slice none 0 0])
  have HS0 := Lib.hid (S.below hb0)
  have HG0 := Lib.hid (World.grownBy_alloc w (.cells #[.bool false, .slice none 0 0] 26) (some g))
  have hz0 : (w.alloc (.cells #[.bool false, .slice none 0 0] 26)).heap.size = w.heap.size + 1 := by simp
  go_enter Tryz.func20, Tryz.ntmps20
  go_upto_region 1 with fail
  generalize hW : World.alloc w _ = W at *
  clear hb0 hW
  replace hz0 := Lib.hid hz0
  replace hlt := Lib.hid hlt
  go_wp2_with fail
  refine (spec_l01Next _ _ _ _ _ 2 HS0.out (by decide) (by decide)).mono ?_
  rintro e w1 ⟨k, rfl, hk, hS1, hg1, hz1⟩
  replace hz1 := Lib.hid hz1
  replace hS1 := Lib.hid hS1
  replace hg1 := Lib.hid hg1
  replace hk := Lib.hid hk
  obtain ⟨fin, hfin⟩ : ∃ fin : Bool, ((k : Int) == 0) = fin := ⟨_, rfl⟩
  replace hfin := Lib.hid hfin
  go_upto_region 3 with fail
  rw [hfin.out]
  have HD0 : Hid (Dn w0 v xs g w w1.heap.size (w1.heap.size + 1) fin (.slice (some ⟨w1.heap.size, 0, none⟩) 0 0) [] ((w1.alloc (.cells #[] 2)).alloc (.cells #[.bool fin, .slice (some ⟨w1.heap.size, 0, none⟩) 0 0] 26))) := Lib.hid (by
    have e1 := hz1.out
    have e0 := hz0.out
    have el := hlt.out
    have h1 := (gr_far HG0.out hg1.out (fun k e => .inl (by injection e with e; exact e.symm)))
    have hA := below_alloc' w1 (.cells #[] 2)
    have hB := below_alloc' (w1.alloc (.cells #[] 2)) (.cells #[.bool fin, .slice (some ⟨w1.heap.size, 0, none⟩) 0 0] 26)
    exact ⟨(hS1.out.alloc _).alloc _, Blk.new' _ _ _ (by simp), ((HR0.out.grown hg1.out (fun e => by injection e; omega)).alloc _).alloc _, (Ow.lit (K := cI) [] rfl rfl (Nat.le_refl _)).alloc _,
      fun e => by injection e with e; have e' : w1.heap.size = w1.heap.size + 1 := e; omega, gr_below (gr_below h1 hA) hB, el, by omega, by omega⟩)
  generalize World.alloc (World.alloc w1 _) _ = w2 at *
  clear HR0 HS0 HG0 hS1 hg1 S
  go_loopw [4] (fun i wr => ∃ j : Nat, j ≤ 7 ∧ i = .int .i64 j ∧ ∃ u L, L.length ≤ j ∧ Dn w0 v xs g w w1.heap.size (w1.heap.size + 1) fin u L wr) (fun i _ => 7 - (intOf i).toNat)
  case atStart => exact ⟨0, Nat.zero_le _, rfl, _, _, Nat.zero_le _, HD0.out⟩
  case round =>
    obtain ⟨j, hj, rfl, u, L, hL, hs⟩ := hrel
    clear HD0
    have HS := Lib.hid hs
    obtain ⟨Ao, co, rfl⟩ := hs.o.opn
    clear hs
    by_cases h7 : j < 7
    · go_wp2_with fail
      refine (spec_l01Next _ _ _ _ _ 3 HS.out.S (by decide) (by decide)).mono ?_
      rintro e w3 ⟨k3, rfl, hk3, hS3, hg3, hz3⟩
      have HZ := Lib.hid (HS.out.call hS3 hg3)
      replace hz3 := Lib.hid hz3
      clear hk3 hS3 hg3
      have kk : w3.cell? ⟨w1.heap.size + 1, 1, none⟩ = some (.slice Ao L.length co) := HZ.out.blk.cell 1
      have hbz : w1.heap.size ≤ w3.heap.size := Nat.le_trans (Nat.le_succ _) (Nat.le_of_lt HZ.out.blk.lt)
      cases h0 : ((k3 : Int) == 0)
      · clear kk
        go_wp2
        go_roundw
        case rel => exact ⟨j + 1, by omega, by go_num, _, L, by omega, HZ.out⟩
        case measure => simp [intOf]; omega
      · clear HS
        go_wp2_with (at_builtin; refine stopHere ?_)
        refine goHere ?_
        refine ap_one (K := cI) _ ty_int64 rfl _ _ rfl (B := w1.heap.size) (xs := L) rfl HZ.out.o (j : Int) rfl rfl (by omega) hbz ?_
        intro v1 w9 ho1 hg1 hb1 hat1
        obtain ⟨A9, c9, hv9⟩ := ho1.opn; rw [List.length_append, List.length_singleton] at hv9; subst hv9
        obtain ⟨hk9, hm9⟩ := HZ.out.push ho1 hg1 hat1
        have kc9 := hk9.cell
        have kf9 := hk9.frozen
        have kl9 := hk9.lt
        have Z := Lib.hid hm9
        clear ho1 hg1 hb1 hat1 hk9 hm9 kk
        go_wp2
        go_roundw
        case rel => exact ⟨j + 1, by omega, by go_num, _, L ++ [(j : Int)], by rw [List.length_append, List.length_singleton]; omega, Z.out⟩
        case measure => simp [intOf]; omega
    · obtain rfl : j = 7 := by omega
      go_wp2_with fail
      refine (spec_l01Next _ _ _ _ _ 16 HS.out.S (by decide) (by decide)).mono ?_
      rintro e w3 ⟨k3, rfl, hk3, hS3, hg3, hz3⟩
      have HZ := Lib.hid (HS.out.call hS3 hg3)
      replace hz3 := Lib.hid hz3
      clear hk3 hS3 hg3
      have kk : w3.cell? ⟨w1.heap.size + 1, 1, none⟩ = some (.slice Ao L.length co) := HZ.out.blk.cell 1
      have hbz : w1.heap.size ≤ w3.heap.size := Nat.le_trans (Nat.le_succ _) (Nat.le_of_lt HZ.out.blk.lt)
      cases h0 : ((k3 : Int) == 0)
      · cases h1 : ((k3 : Int) == 1)
        · clear kk
          have HLn : Hid (L.length ≤ 100) := Lib.hid (by omega)
          clear hL
          have kb := HZ.out.blk.cell
          have kl := HZ.out.blk.lt
          have rc := HZ.out.res.cell
          have rf := HZ.out.res.frozen
          have rl := HZ.out.res.lt
          go_wp2
          refine bodyPost_ret (v := .agg #[.bool fin, .slice Ao L.length co]) (by simp [results, Tryz.results20, go_sem, rc, rf, rl]) rfl ⟨fin, _, L, rfl, HLn.out, ?_, ?_, ?_⟩
          · exact ((HZ.out.o.setBelow (p := ⟨w.heap.size, 0, none⟩) HZ.out.lp _).setBelow (p := ⟨w.heap.size, 1, none⟩) HZ.out.lp _).mono (Nat.le_of_lt HZ.out.lp)
          · have e1 := HZ.out.lt
            have e2 := HZ.out.S.lo
            exact (HZ.out.S.far (p := ⟨w.heap.size, 0, none⟩) (fun e => by have e' : w.heap.size = g := e; omega) (by show w0.heap.size ≤ w.heap.size; omega) _).far (p := ⟨w.heap.size, 1, none⟩) (fun e => by have e' : w.heap.size = g := e; omega) (by show w0.heap.size ≤ w.heap.size; omega) _
          · exact gr_set (gr_set HZ.out.gr (.inr (Nat.le_refl _)) _) (.inr (Nat.le_refl _)) _

        · have kb := HZ.out.blk.cell
          have kf := HZ.out.blk.frozen
          have kl := HZ.out.blk.lt
          clear kk
          go_upto_region 12 with fail
          have HY : Hid (Dn w0 v xs g w w1.heap.size (w1.heap.size + 1) fin (.slice (some ⟨w3.heap.size, 0, none⟩) 0 0) [] ((w3.setCell ⟨w1.heap.size + 1, 1, none⟩ (.slice (some ⟨w3.heap.size, 0, none⟩) 0 0)).alloc (.cells #[] 2))) := Lib.hid (by
            have e1 := HZ.out.blk.lt
            have := (HZ.out.put (u1 := .slice (some ⟨w3.heap.size, 0, none⟩) 0 0) (L1 := []) (row := none) (Y := w3.alloc (.cells #[] 2)) (Ow.lit (K := cI) [] rfl rfl (by omega)) (World.grownBy_alloc _ _ _) (fun k e => by cases e) (fun e => by injection e with e; have e' : w3.heap.size = w1.heap.size + 1 := e; omega)).2
            rwa [World.setCell_alloc_past _ _ _ _ e1] at this)
          generalize World.alloc (World.setCell w3 _ _) _ = w4 at *
          clear HZ HS hL kb kf kl
          go_wp2
          go_loopw [5] (fun i wr => ∃ j : Nat, j ≤ 61 ∧ i = .int .i64 j ∧ ∃ u L, L.length ≤ j ∧ Dn w0 v xs g w w1.heap.size (w1.heap.size + 1) fin u L wr) (fun i _ => 61 - (intOf i).toNat)
          case atStart => exact ⟨0, Nat.zero_le _, rfl, _, _, Nat.zero_le _, HY.out⟩
          case round =>
            clear HY
            obtain ⟨j, hj, rfl, u, L, hL, hs⟩ := hrel
            have HZ := Lib.hid hs
            obtain ⟨Ao, co, rfl⟩ := hs.o.opn
            clear hs
            have kk : wr.cell? ⟨w1.heap.size + 1, 1, none⟩ = some (.slice Ao L.length co) := HZ.out.blk.cell 1
            have hbz : w1.heap.size ≤ wr.heap.size := Nat.le_trans (Nat.le_succ _) (Nat.le_of_lt HZ.out.blk.lt)
            by_cases h61 : j < 61
            · go_wp2_with (at_builtin; refine stopHere ?_)
              refine goHere ?_
              refine ap_one (K := cI) _ ty_int64 rfl _ _ rfl (B := w1.heap.size) (xs := L) rfl HZ.out.o (j : Int) rfl rfl (by omega) hbz ?_
              intro v1 w9 ho1 hg1 hb1 hat1
              obtain ⟨A9, c9, hv9⟩ := ho1.opn; rw [List.length_append, List.length_singleton] at hv9; subst hv9
              obtain ⟨hk9, hm9⟩ := HZ.out.push ho1 hg1 hat1
              have kc9 := hk9.cell
              have kf9 := hk9.frozen
              have kl9 := hk9.lt
              have Z := Lib.hid hm9
              clear ho1 hg1 hb1 hat1 hk9 hm9 kk
              go_wp2
              go_roundw
              case rel => exact ⟨j + 1, by omega, by go_num, _, L ++ [(j : Int)], by rw [List.length_append, List.length_singleton]; omega, Z.out⟩
              case measure => simp [intOf]; omega
            · obtain rfl : j = 61 := by omega
              clear kk
              have HLn : Hid (L.length ≤ 100) := Lib.hid (by omega)
              clear hL
              have kb := HZ.out.blk.cell
              have kl := HZ.out.blk.lt
              have rc := HZ.out.res.cell
              have rf := HZ.out.res.frozen
              have rl := HZ.out.res.lt
              go_wp2
              refine bodyPost_ret (v := .agg #[.bool fin, .slice Ao L.length co]) (by simp [results, Tryz.results20, go_sem, rc, rf, rl]) rfl ⟨fin, _, L, rfl, HLn.out, ?_, ?_, ?_⟩
              · exact ((HZ.out.o.setBelow (p := ⟨w.heap.size, 0, none⟩) HZ.out.lp _).setBelow (p := ⟨w.heap.size, 1, none⟩) HZ.out.lp _).mono (Nat.le_of_lt HZ.out.lp)
              · have e1 := HZ.out.lt
                have e2 := HZ.out.S.lo
                exact (HZ.out.S.far (p := ⟨w.heap.size, 0, none⟩) (fun e => by have e' : w.heap.size = g := e; omega) (by show w0.heap.size ≤ w.heap.size; omega) _).far (p := ⟨w.heap.size, 1, none⟩) (fun e => by have e' : w.heap.size = g := e; omega) (by show w0.heap.size ≤ w.heap.size; omega) _
              · exact gr_set (gr_set HZ.out.gr (.inr (Nat.le_refl _)) _) (.inr (Nat.le_refl _)) _
      · have hI : w3.drew.cell? ⟨w1.heap.size + 1, 1, none⟩ = some (.slice Ao L.length co) := kk
        go_upto_region 9 with fail
        refine wp_region_sched (fun X => X.cell? ⟨w1.heap.size + 1, 1, none⟩ = some (.slice Ao L.length co)) 8 [0, 1, 2, 7] [0, 1, 2, 3, 4, 5, 6, 7] (by kernel_rfl) (by kernel_rfl) hI ?_
        repeat
          apply wpSched_q rfl rfl
          case h =>
            intro w' hI K hK
            have cc : w'.cell? ⟨w1.heap.size + 1, 1, none⟩ = some (.slice Ao L.length co) := hI
            simp only [quietV, stillV]
            go_simp
            exact hK
          go_simp
        refine wpSched_r rfl rfl ?_ hI
        intro K hK _
        go_simp
        refine hK _ _ (by exact (Below.refl _ _).alloc (Nat.le_refl _) _ |>.cell (p := ⟨w1.heap.size + 1, 1, none⟩) HZ.out.blk.lt |>.trans kk) ?_
        clear hK K
        have HX := Lib.hid (HZ.out.below ((below_alloc' w3 (.cells #[.int .i64 60, .int .i64 61, .int .i64 (-1), .int .i64 0] 2)).drew))
        have HL4 : Hid (Ow cI 2 w3.heap.size (w3.alloc (.cells #[.int .i64 60, .int .i64 61, .int .i64 (-1), .int .i64 0] 2)).drew (.slice (some ⟨w3.heap.size, 0, none⟩) 4 4) [60, 61, -1, 0]) := Lib.hid ((Ow.lit (K := cI) [60, 61, -1, 0] rfl rfl (Nat.le_refl _)).drewN 1)
        have hI4 : (w3.alloc (.cells #[.int .i64 60, .int .i64 61, .int .i64 (-1), .int .i64 0] 2)).drew.cell? ⟨w1.heap.size + 1, 1, none⟩ = some (.slice Ao L.length co) := HX.out.blk.cell 1
        generalize World.drew (World.alloc w3 _) = w4 at *
        refine wpSched_r rfl rfl ?_ hI4
        intro K hK _
        go_simp
        refine (spec_l01Pick _ _ _ _ _ _ [60, 61, -1, 0] HX.out.S HL4.out.sl (.inr (fun e => by injection e with e; have e' : w3.heap.size = g := e; have e1 := HX.out.lt; have e2 := HX.out.lp; omega)) (by decide) (by decide)).mono ?_
        rintro e w5 ⟨y, rfl, hy, hS5, hg5, hz5⟩
        have HX5 := Lib.hid (HX.out.call hS5 hg5)
        have hI5 : w5.cell? ⟨w1.heap.size + 1, 1, none⟩ = some (.slice Ao L.length co) := HX5.out.blk.cell 1
        refine hK _ _ hI5 ?_
        clear hK K hS5 hg5 hz5 hy
        refine wpSched_r rfl rfl ?_ hI5
        intro K hK _
        go_simp
        have hI6 : (w5.alloc (.cells #[.int .i64 y] 2)).cell? ⟨w1.heap.size + 1, 1, none⟩ = some (.slice Ao L.length co) := (HX5.out.below (below_alloc' w5 (.cells #[.int .i64 y] 2))).blk.cell 1
        refine hK _ _ hI6 ?_
        clear hK K
        have HX6 := Lib.hid (HX5.out.below (below_alloc' w5 (.cells #[.int .i64 y] 2)))
        have HL6 := Lib.hid (Ow.lit (K := cI) (B := w5.heap.size) (w := w5) (e := 2) (cs := #[.int .i64 y]) [y] rfl rfl (Nat.le_refl _))
        have hlx : (w5.alloc (.cells #[.int .i64 y] 2)).heap.size = w5.heap.size + 1 := by simp
        generalize hw6 : World.alloc w5 _ = w6 at *
        refine wpSched_r rfl rfl ?_ hI6
        intro K hK _
        rw [if_pos (show Region.wanted _ _ = true from rfl)]
        refine ap_wp (K := cI) w6 ty_int64 _ _ rfl (B := w1.heap.size) rfl HX6.out.o (news := [y]) rfl rfl HL6.out.sl.rdA (by rw [List.length_singleton]; omega) (Nat.le_trans (Nat.le_succ _) (Nat.le_of_lt HX6.out.blk.lt)) ?_
        intro v1 w9 ho1 hg1 hb1 hat1
        obtain ⟨A9, c9, hv9⟩ := ho1.opn; rw [List.length_append, List.length_singleton] at hv9; subst hv9
        obtain ⟨hk9, hm9⟩ := HX6.out.push0 ho1 hg1 hat1
        refine hK _ _ (hk9.cell 1) ?_
        clear hK K
        repeat
          apply wpSched_q rfl rfl
          case h =>
            intro w' hI K hK
            simp only [quietV, stillV]
            go_simp
            exact hK
          go_simp
        refine wpSched_nil ?_
        try simp only [List.drop_succ_cons, List.drop_zero, List.drop_nil]
        have kc9 := hk9.cell
        have kf9 := hk9.frozen
        have kl9 := hk9.lt
        have Z := Lib.hid hm9
        have HLn : Hid ((L ++ [y]).length ≤ 100) := Lib.hid (by rw [List.length_append, List.length_singleton]; omega)
        clear ho1 hg1 hb1 hat1 hk9 hm9 HX HX5 HX6 HZ HS HL4 HL6 hw6 hlx kk hI hI4 hI5 hI6 hL
        go_upto_region 16 with fail
        generalize World.setCell w9 _ _ = w10 at *
        clear kc9 kf9 kl9
        have HZ := Z
        have kb := HZ.out.blk.cell
        have kl := HZ.out.blk.lt
        have rc := HZ.out.res.cell
        have rf := HZ.out.res.frozen
        have rl := HZ.out.res.lt
        go_wp2
        refine bodyPost_ret (v := .agg #[.bool fin, .slice A9 (L.length + 1) c9]) (by simp [results, Tryz.results20, go_sem, rc, rf, rl]) rfl ⟨fin, _, L ++ [y], rfl, HLn.out, ?_, ?_, ?_⟩
        · exact ((HZ.out.o.setBelow (p := ⟨w.heap.size, 0, none⟩) HZ.out.lp _).setBelow (p := ⟨w.heap.size, 1, none⟩) HZ.out.lp _).mono (Nat.le_of_lt HZ.out.lp)
        · have e1 := HZ.out.lt
          have e2 := HZ.out.S.lo
          exact (HZ.out.S.far (p := ⟨w.heap.size, 0, none⟩) (fun e => by have e' : w.heap.size = g := e; omega) (by show w0.heap.size ≤ w.heap.size; omega) _).far (p := ⟨w.heap.size, 1, none⟩) (fun e => by have e' : w.heap.size = g := e; omega) (by show w0.heap.size ≤ w.heap.size; omega) _
        · exact gr_set (gr_set HZ.out.gr (.inr (Nat.le_refl _)) _) (.inr (Nat.le_refl _)) _
set_option maxRecDepth 100000 in
theorem spec_DrawMeetTraces (v : Value) (xs : List (Fin 256)) (w : World) (h : Sl cY w v xs) (hl : xs.length ≤ 4096) :
    Calls Tryz.prog 5 #[v] w fun e w' => ∃ (b : Bool) (u : Value) (L : List Int) (b' : Bool) (u' : Value) (L' : List Int), e = .returned (.tuple #[.agg #[.bool b, u], .agg #[.bool b', u']]) ∧ L.length ≤ 100 ∧ L'.length ≤ 100 ∧ Ow cI 2 w.heap.size w' u L ∧ Ow cI 2 w.heap.size w' u' L' ∧ Below w.heap.size w w' := by
  have hb1 := below_alloc' w (.cells #[.bool false, .slice none 0 0] 26)
  have hb2 := below_alloc' (w.alloc (.cells #[.bool false, .slice none 0 0] 26)) (.cells #[.bool false, .slice none 0 0] 26)
  have hk1 := Blk.new w 26 #[.bool false, .slice none 0 0]
  have HK1 := Lib.hid (hk1.below hb2 hk1.lt)
  have HK2 := Lib.hid (Blk.new' (g := w.heap.size + 1) (w.alloc (.cells #[.bool false, .slice none 0 0] 26)) 26 #[.bool false, .slice none 0 0] (by simp))
  have hb := bthen hb1 hb2
  have HZ : Hid (((w.alloc (.cells #[.bool false, .slice none 0 0] 26)).alloc (.cells #[.bool false, .slice none 0 0] 26)).heap.size = w.heap.size + 2) := Lib.hid (by simp)
  have HH := Lib.hid (h.below hb)
  have HB := Lib.hid hb
  clear hb1 hb2 hk1 hb
  go_enter Tryz.func5, Tryz.ntmps5
  go_upto_region 1 with fail
  generalize World.alloc (w.alloc _) _ = W at *
  go_wp2_with fail
  refine (spec_l01From v xs W HH.out hl).mono ?_
  rintro e w1 ⟨rfl, hS, hb⟩
  have HK3 := Lib.hid (HK1.out.below hb HK1.out.lt)
  have HK4 := Lib.hid (HK2.out.below hb HK2.out.lt)
  have HB1 := Lib.hid (bthen HB.out hb)
  clear hb HK1 HK2
  go_wp2_with fail
  refine (spec_l32Drawn _ v xs w1 _ hS).mono ?_
  rintro e w2 ⟨b, u, L, rfl, hL, ho, hS2, hg⟩
  have hz := HZ.out
  have hzz := HB1.out.size
  have hgl := hS.lt
  have HK5 := Lib.hid (HK3.out.grown hg (fun e => by injection e; omega))
  have HK6 := Lib.hid (HK4.out.grown hg (fun e => by injection e; omega))
  have HB2 := Lib.hid (below_grown HB1.out hg (by omega) (fun k e => by injection e; omega))
  replace hL := Lib.hid hL
  replace ho := Lib.hid ho
  have S1 : Hid (w.heap.size + 2 < w1.heap.size) := Lib.hid (by omega)
  have hgs := hg.size
  have S2 : Hid (w.heap.size + 2 ≤ w2.heap.size) := Lib.hid (by omega)
  clear hg hS HK3 HK4 hz hzz hgl hgs
  obtain ⟨A, c, rfl⟩ := ho.out.opn
  go_wp2_with fail
  refine (spec_l32Drawn _ v xs w2 _ hS2).mono ?_
  rintro e w3 ⟨b', u', L', rfl, hL', ho', hS3, hg⟩
  have hz := HZ.out
  have hz2 := HB2.out.size
  have hgl := S2.out
  have HO := Lib.hid (ho.out.kept hg (by
    cases hv : Value.ownBlock (.slice A L.length c) with
    | none => exact .inl rfl
    | some k => exact .inr (fun e => by injection e with e; have := (ho.out.block k hv).1; have := HB1.out.size; have := S1.out; omega)))
  have hk7 := HK5.out.grown hg (fun e => by injection e; omega)
  have hk8 := HK6.out.grown hg (fun e => by injection e; omega)
  have HB3 := Lib.hid (below_grown HB2.out hg (by omega) (fun k e => by injection e; omega))
  replace hL' := Lib.hid hL'
  replace ho' := Lib.hid ho'
  obtain ⟨A', c', rfl⟩ := ho'.out.opn
  clear hg hS2 hS3 ho HK5 HK6
  have k7 := hk7.cell
  have f7 := hk7.frozen
  have l7 := hk7.lt
  have k8 := hk8.cell
  have f8 := hk8.frozen
  have l8 := hk8.lt
  clear hz hgl hz2 hk7 hk8
  go_upto_region 3 with fail
  have g0 : w.heap.size + 1 < w1.heap.size := by have := S1.out; omega
  have g1 : w.heap.size + 1 < w2.heap.size := by have := S2.out; omega
  refine bodyPost_ret (v := .tuple #[.agg #[.bool b, .slice A L.length c], .agg #[.bool b', .slice A' L'.length c']]) (by simp [results, Tryz.results5, go_sem, k7, f7, l7, k8, f8, l8]) rfl ⟨b, _, L, b', _, L', rfl, hL.out, hL'.out, ?_, ?_, ?_⟩
  · exact ((((HO.out.setBelow (p := ⟨w.heap.size, 0, none⟩) (by show w.heap.size < _; omega) _).setBelow (p := ⟨w.heap.size, 1, none⟩) (by show w.heap.size < _; omega) _).setBelow (p := ⟨w.heap.size + 1, 0, none⟩) g0 _).setBelow (p := ⟨w.heap.size + 1, 1, none⟩) g0 _).mono HB1.out.size
  · exact ((((ho'.out.setBelow (p := ⟨w.heap.size, 0, none⟩) (by show w.heap.size < _; omega) _).setBelow (p := ⟨w.heap.size, 1, none⟩) (by show w.heap.size < _; omega) _).setBelow (p := ⟨w.heap.size + 1, 0, none⟩) g1 _).setBelow (p := ⟨w.heap.size + 1, 1, none⟩) g1 _).mono HB2.out.size
  · exact (((HB3.out.setCell (by show w.heap.size ≤ w.heap.size; omega) _).setCell (by show w.heap.size ≤ w.heap.size; omega) _).setCell (by show w.heap.size ≤ w.heap.size + 1; omega) _).setCell (by show w.heap.size ≤ w.heap.size + 1; omega) _
end Go.Proofs.YtjpgiamblbgkpaaGreat
