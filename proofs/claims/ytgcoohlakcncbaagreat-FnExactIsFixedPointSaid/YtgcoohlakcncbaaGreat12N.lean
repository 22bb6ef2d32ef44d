/- Contracts of the reference: the first surviving type that refutes a sequent of two formulas. -/
import Derived.Test.YtgcoohlakcncbaaGreat12Z
namespace Go.Proofs.YtgcoohlakcncbaaGreat
open Go.RowKit
set_option linter.unusedVariables false
set_option linter.unusedSimpArgs false
theorem SpC.kp6 {P : List Fm} {B p : Nat} {c : Nat → Nat} {v1 v2 v3 v4 v5 v6 v7 : Value} {ts : List Nat} {tx ty : List Fm} {hs : List Hd} {W W' : World} (h : SpC P B p c v1 v2 v3 v4 v5 v6 v7 ts tx ty hs W) (hk : KpC c 6 W W') : SpC P B p c v1 v2 v3 v4 v5 v6 v7 ts tx ty hs W' := by
  have hsz : W.heap.size ≤ W'.heap.size := KpS.size hk
  exact ⟨h.blk.kps hk (by rw [h.cp]; decide), h.cp, h.bp, h.low, h.parts.kps hk fun k e => by rw [(h.c1 k e).1]; decide, fun k e => ⟨(h.c1 k e).1, Nat.lt_of_lt_of_le (h.c1 k e).2 hsz⟩, h.types.kps hk fun k e => by rw [(h.c5 k e).1]; decide, fun k e => ⟨(h.c5 k e).1, Nat.lt_of_lt_of_le (h.c5 k e).2 hsz⟩,
    h.texts.kps hk fun k e => by rw [h.c6 k e]; decide, h.c6, h.rows.kps hk fun k e => by rw [h.c7 k e]; decide, h.c7, h.hl, fun i hi => ⟨(h.rw i hi).1.kps hk fun k e => by rw [((h.rw i hi).2 k e).1]; decide, fun k e => ⟨((h.rw i hi).2 k e).1, Nat.lt_of_lt_of_le ((h.rw i hi).2 k e).2 hsz⟩⟩, h.ok⟩
structure FsI (P : List Fm) (B p : Nat) (w0 : World) (c0 c : Nat → Nat) (v1 v2 v3 v4 v5 v6 v7 : Value) (ts : List Nat) (tx : List Fm) (hs : List Hd) (s0 g : Nat) (A0 A1 : Option Addr) (k0 k1 : Nat) (a b : Fm) (L : List Bool) (W : World) : Prop where
  sp : SpC P B p c v1 v2 v3 v4 v5 v6 v7 ts tx tx hs W
  cs : c s0 = 6
  cg : c g = 6
  box : Blk W s0 41 #[.slice A0 1 k0, .slice A1 1 k1]
  rf : Ow cB 4 w0.heap.size W (.slice (some ⟨g, 0, none⟩) ts.length ts.length) L
  gs : g ≠ s0 ∧ g < W.heap.size
  len : L.length = ts.length
  la : Sl cS W (.slice A0 1 k0) [txt a]
  ca : ∀ k, (Value.slice A0 1 k0).ownBlock = some k → c k = 0 ∧ k < W.heap.size
  lb : Sl cS W (.slice A1 1 k1) [txt b]
  cb : ∀ k, (Value.slice A1 1 k1).ownBlock = some k → c k = 0 ∧ k < W.heap.size
  same : ∀ k, k < w0.heap.size → c k = c0 k
  kp : KpM c0 w0 W
section
variable {P : List Fm} {B p : Nat} {w0 : World} {c0 c : Nat → Nat} {v1 v2 v3 v4 v5 v6 v7 : Value} {ts : List Nat} {tx : List Fm} {hs : List Hd} {s0 g : Nat} {A0 A1 : Option Addr} {k0 k1 : Nat} {a b : Fm} {L : List Bool} {W W' : World}
theorem FsI.row {c' : Nat → Nat} {v6' v7' : Value} {tx' : List Fm} {hs' : List Hd} (h : FsI P B p w0 c0 c v1 v2 v3 v4 v5 v6 v7 ts tx hs s0 g A0 A1 k0 k1 a b L W) (hsp : SpC P B p c' v1 v2 v3 v4 v5 v6' v7' ts tx' tx' hs' W') (he : ∀ k, k < W.heap.size → c' k = c k) (hk : KpM c W W') :
    FsI P B p w0 c0 c' v1 v2 v3 v4 v5 v6' v7' ts tx' hs' s0 g A0 A1 k0 k1 a b L W' := by
  have hsz : W.heap.size ≤ W'.heap.size := KpS.size hk
  have h00 : w0.heap.size ≤ W.heap.size := KpS.size h.kp
  refine ⟨hsp, by rw [he _ h.box.lt]; exact h.cs, by rw [he _ h.gs.2]; exact h.cg, h.box.kps hk (by rw [h.cs]; decide), h.rf.kps hk fun k e => ?_, ⟨h.gs.1, Nat.lt_of_lt_of_le h.gs.2 hsz⟩, h.len, h.la.kps hk fun k e => by rw [(h.ca k e).1]; decide, fun k e => ⟨by rw [he _ (h.ca k e).2]; exact (h.ca k e).1, Nat.lt_of_lt_of_le (h.ca k e).2 hsz⟩,
    h.lb.kps hk fun k e => by rw [(h.cb k e).1]; decide, fun k e => ⟨by rw [he _ (h.cb k e).2]; exact (h.cb k e).1, Nat.lt_of_lt_of_le (h.cb k e).2 hsz⟩, fun k hk => by rw [he k (by omega)]; exact h.same k hk, KpS.then' h.kp hk fun x hx hT => by rw [h.same x hx] at hT; exact hT⟩
  obtain rfl : g = k := by simpa [Value.ownBlock] using e
  rw [h.cg]; decide
theorem FsI.set (h : FsI P B p w0 c0 c v1 v2 v3 v4 v5 v6 v7 ts tx hs s0 g A0 A1 k0 k1 a b L W) {j : Nat} (hj : j < ts.length) (hg : w0.heap.size ≤ g) (x : Bool) :
    FsI P B p w0 c0 c v1 v2 v3 v4 v5 v6 v7 ts tx hs s0 g A0 A1 k0 k1 a b (L.set j x) (W.setCell ⟨g, j, none⟩ (.bool x)) := by
  have hk : KpS (fun k => k = g) W (W.setCell ⟨g, j, none⟩ (.bool x)) := keepP g j _
  have hk6 : KpC c 6 W (W.setCell ⟨g, j, none⟩ (.bool x)) := KpS.mono (T := fun k => c k = 6) hk fun k e => by rw [e]; exact h.cg
  have hsz : W.heap.size ≤ (W.setCell ⟨g, j, none⟩ (.bool x)).heap.size := KpS.size hk
  refine ⟨h.sp.kp6 hk6, h.cs, h.cg, h.box.kps hk (fun e => h.gs.1 e.symm), h.rf.set1 rfl rfl (by rw [h.len]; exact hj), ⟨h.gs.1, Nat.lt_of_lt_of_le h.gs.2 hsz⟩, by rw [List.length_set]; exact h.len, h.la.kps hk fun k e e2 => ?_, fun k e => ⟨(h.ca k e).1, Nat.lt_of_lt_of_le (h.ca k e).2 hsz⟩,
    h.lb.kps hk fun k e e2 => ?_, fun k e => ⟨(h.cb k e).1, Nat.lt_of_lt_of_le (h.cb k e).2 hsz⟩, h.same, KpS.then' h.kp hk fun x hx hT => ?_⟩
  · have h1 := (h.ca k e).1; rw [e2, h.cg] at h1; cases h1
  · have h1 := (h.cb k e).1; rw [e2, h.cg] at h1; cases h1
  · omega
theorem FsI.cell (h : FsI P B p w0 c0 c v1 v2 v3 v4 v5 v6 v7 ts tx hs s0 g A0 A1 k0 k1 a b L W) {j : Nat} (hj : j < ts.length) {x : Bool} (hx : L[j]? = some x) :
    W.cell? ⟨g, j, none⟩ = some (.bool x) ∧ W.frozen? ⟨g, j, none⟩ = false ∧ g < W.heap.size := by
  have hl : j < L.length := by rw [h.len]; exact hj
  have hx2 : L[j] = x := by rw [List.getElem?_eq_getElem hl] at hx; exact Option.some.inj hx
  obtain ⟨q1, q2, -, q4⟩ := h.rf.at1 rfl hl (u := .bool x) (by rw [hx2]; rfl)
  exact ⟨q1, q2, q4⟩
end
theorem rwL_at (P : List Fm) (ts : List Nat) (f : Fm) {k : Nat} (h : k < (rwL P ts f).length) : (rwL P ts f)[k] = vt P (ts.getD k 0) f := by
  have h2 : k < ts.length := by rw [rwL_length] at h; exact h
  rw [List.getD_eq_getElem?_getD, List.getElem?_eq_getElem h2]
  simp [rwL]
/-- the tests of a list of flags, after a row of and's up to a place -/
def rfAt (n : Nat) (L : List Bool) (q : Nat → Bool) : Prop := ∀ i, i < n → L[i]? = some (q i)
theorem rfAt.set {n : Nat} {L : List Bool} {q r : Nat → Bool} {j : Nat} (hl : L.length = n) (hj : j < n) (h : rfAt n L fun i => if i < j then r i else q i) : rfAt n (L.set j (r j)) fun i => if i < j + 1 then r i else q i := fun i hi => by
  have h2 := h i hi
  dsimp only at h2 ⊢
  by_cases hij : j = i
  · subst hij
    rw [List.getElem?_set_self (by omega), if_pos (Nat.lt_succ_self _)]
  · rw [List.getElem?_set_ne hij, h2]
    by_cases h1 : i < j
    · rw [if_pos h1, if_pos (by omega)]
    · rw [if_neg h1, if_neg (by omega)]
theorem rfAt.done {n : Nat} {L : List Bool} {q r : Nat → Bool} (h : rfAt n L fun i => if i < n then r i else q i) : rfAt n L r := fun i hi => by
  have h2 := h i hi
  dsimp only at h2
  rw [h2, if_pos hi]
theorem rfAt.start {n : Nat} {L : List Bool} {q r : Nat → Bool} (h : rfAt n L q) : rfAt n L fun i => if i < 0 then r i else q i := fun i hi => by
  dsimp only
  rw [h i hi, if_neg (Nat.not_lt_zero _)]
set_option maxRecDepth 100000 in
set_option maxHeartbeats 4000000 in
theorem spec_l12First (P : List Fm) (B p : Nat) (c : Nat → Nat) (v1 v2 v3 v4 v5 v6 v7 : Value) (ts : List Nat) (tx : List Fm) (hs : List Hd) (a b : Fm) (hP : P.length ≤ 8) (hPok : ∀ g ∈ P, g.ok = true) (ha : a.ok = true) (ha40 : (enc a).length ≤ 40) (hain : inP P a) (hb : b.ok = true) (hb40 : (enc b).length ≤ 40) (hbin : inP P b) (hts : ∀ t ∈ ts, t < 256) (hl : ts.length ≤ 256) (hx : tx.length ≤ 900) (lv rv : Value) (w : World) (h : SpC P B p c v1 v2 v3 v4 v5 v6 v7 ts tx tx hs w)
    (hla : Sl cS w lv [txt a]) (hca : ∀ k, lv.ownBlock = some k → c k = 0 ∧ k < w.heap.size) (hlb : Sl cS w rv [txt b]) (hcb : ∀ k, rv.ownBlock = some k → c k = 0 ∧ k < w.heap.size) :
    Calls Tryz.prog 130 #[.pointer (some ⟨p, 0, none⟩), .agg #[lv, rv]] w fun e w' => ∃ (r : Int) (c' : Nat → Nat) (v6' v7' : Value) (tx' : List Fm) (hs' : List Hd), e = .returned (.int .i64 r) ∧ decide (r < 0) = !(ts.any fun t => vt P t a && !vt P t b) ∧ SpC P B p c' v1 v2 v3 v4 v5 v6' v7' ts tx' tx' hs' w' ∧ tx'.length ≤ tx.length + 2 ∧
      (∀ k, k < w.heap.size → c' k = c k) ∧ KpM c w w' := by
  obtain ⟨A0, k0, rfl⟩ := hla.opn
  obtain ⟨A1, k1, rfl⟩ := hlb.opn
  have e1 : [txt a].length = 1 := rfl
  have e2 : [txt b].length = 1 := rfl
  rw [e1] at hla hca ⊢
  rw [e2] at hlb hcb ⊢
  clear e1 e2
  have HRa := Lib.hid (fun c v6 v7 tx hs (hx : tx.length ≤ 1000) W hW => spec_l12Row P B p c v1 v2 v3 v4 v5 v6 v7 ts tx hs a hP hPok ha ha40 hain hts hl hx W hW)
  have HRb := Lib.hid (fun c v6 v7 tx hs (hx : tx.length ≤ 1000) W hW => spec_l12Row P B p c v1 v2 v3 v4 v5 v6 v7 ts tx hs b hP hPok hb hb40 hbin hts hl hx W hW)
  have HTS := Lib.hid (fun k (hk : k < ts.length) => hts ts[k] (List.getElem_mem hk))
  obtain ⟨A5, k5, e5⟩ := h.types.opn
  rw [li_length] at e5
  subst e5
  have hb0 := below_alloc' w (.cells #[.slice A0 1 k0, .slice A1 1 k1] 41)
  have K1 := Lib.hid (Blk.new w 41 #[.slice A0 1 k0, .slice A1 1 k1])
  have HS := Lib.hid ((h.recl (recol c w.heap.size 6) fun k hk => recol_lt _ _ _ _ hk).below hb0)
  have HLA := Lib.hid (hla.below hb0)
  have HLB := Lib.hid (hlb.below hb0)
  have HB0 := Lib.hid hb0
  have HSZ : Hid (w.heap.size < (World.alloc w (.cells #[.slice A0 1 k0, .slice A1 1 k1] 41)).heap.size) := Lib.hid K1.out.lt
  have HCA := Lib.hid hca
  have HCB := Lib.hid hcb
  have HPOS : Hid (B ≤ w.heap.size) := Lib.hid (by have := h.blk.lt; have := h.bp; omega)
  clear h hla hlb hb0 hca hcb hPok ha ha40 hain hb hb40 hbin hts
  go_enter Tryz.func130, Tryz.ntmps130
  go_upto_region 1 with fail
  generalize World.alloc w _ = w1 at *
  have b5 : w1.cell? ⟨p, 5, none⟩ = some (.slice A5 ts.length k5) := HS.out.blk.cell 5
  have b2 := HS.out.blk.lt
  go_wp2_with (at_make; refine stopHere ?_)
  refine goHere ?_
  refine mk_full (K := cB) w1 ty_bool12R rfl _ _ rfl w.heap.size ts.length false rfl rfl rfl (by omega) (by have := HSZ.out; omega) ?_
  intro w2 ho hg hb hz
  have hsz1 := HSZ.out
  have F2 : Hid (FsI P B p w c (recol c w.heap.size 6) v1 v2 v3 v4 (.slice A5 ts.length k5) v6 v7 ts tx hs w.heap.size w1.heap.size A0 A1 k0 k1 a b (List.replicate ts.length false) w2) := Lib.hid
    ⟨HS.out.below hb, recol_ge _ _ _ _ (Nat.le_refl _), recol_ge _ _ _ _ (by omega), K1.out.below hb K1.out.lt, ho, ⟨by omega, hz⟩, List.length_replicate, HLA.out.below hb, fun k e => ⟨by rw [recol_lt _ _ _ _ (HCA.out k e).2]; exact (HCA.out k e).1, by have := (HCA.out k e).2; omega⟩,
      HLB.out.below hb, fun k e => ⟨by rw [recol_lt _ _ _ _ (HCB.out k e).2]; exact (HCB.out k e).1, by have := (HCB.out k e).2; omega⟩, fun k hk => recol_lt _ _ _ _ hk, KpS.of (bthen HB0.out hb)⟩
  obtain ⟨g, hgg⟩ : ∃ g, w1.heap.size = g := ⟨_, rfl⟩
  have HGG : Hid (w.heap.size ≤ g) := Lib.hid (by omega)
  rw [hgg] at F2 ⊢
  clear ho hg hb hz hsz1 HS K1 HLA HLB HB0 HSZ HCA HCB b5 b2 hgg
  generalize recol c w.heap.size 6 = c2 at *
  have R0 : Hid (rfAt ts.length (List.replicate ts.length false) fun i => if i < 0 then true else false) := Lib.hid fun i hi => by dsimp only; rw [if_neg (Nat.not_lt_zero _), List.getElem?_replicate, if_pos hi]
  go_wp2
  go_loopw [6] (fun i wr => ∃ (j : Nat) (L : List Bool), j ≤ ts.length ∧ i = .int .i64 j ∧ FsI P B p w c c2 v1 v2 v3 v4 (.slice A5 ts.length k5) v6 v7 ts tx hs w.heap.size g A0 A1 k0 k1 a b L wr ∧ rfAt ts.length L fun i => if i < j then true else false) (fun i _ => ts.length - (intOf i).toNat)
  case atStart => exact ⟨0, _, Nat.zero_le _, rfl, F2.out, R0.out⟩
  case round =>
    clear F2 R0
    obtain ⟨j, L, hj, rfl, hF, hR⟩ := hrel
    obtain ⟨w3, hw3⟩ : ∃ W, W = wr := ⟨_, rfl⟩
    subst hw3
    have F3 := Lib.hid hF
    have R3 := Lib.hid hR
    clear hF hR
    by_cases hlt : j < ts.length
    · have i1 : (j : Int) < (ts.length : Int) := by omega
      obtain ⟨q1, q2, q3⟩ := F3.out.cell hlt (R3.out j hlt)
      have F4 := Lib.hid (F3.out.set hlt HGG.out true)
      have R4 : Hid (rfAt ts.length (L.set j true) fun i => if i < j + 1 then true else false) := Lib.hid (rfAt.set (r := fun _ => true) (q := fun _ => false) F3.out.len hlt R3.out)
      clear F3 R3
      go_wp2
      clear q1 q2 q3
      go_roundw
      case rel => exact ⟨j + 1, _, by omega, by go_num, F4.out, R4.out⟩
      case measure => simp [intOf]; omega
    · obtain rfl : j = ts.length := by omega
      have R4 : Hid (rfAt ts.length L fun _ => true) := Lib.hid (rfAt.done (r := fun _ => true) (q := fun _ => false) R3.out)
      clear R3 hlt hj
      have q1 := F3.out.box.cell 0
      have q3 := F3.out.box.lt
      go_wp2
      clear q1 q3
      go_loopw [7, 8, 9] (fun i x8 x9 wr => ∃ (j : Nat) (c3 : Nat → Nat) (v6' v7' : Value) (tx' : List Fm) (hs' : List Hd) (L : List Bool), j ≤ 1 ∧ i = .int .i64 j ∧ FsI P B p w c c3 v1 v2 v3 v4 (.slice A5 ts.length k5) v6' v7' ts tx' hs' w.heap.size g A0 A1 k0 k1 a b L wr ∧ tx'.length ≤ tx.length + j ∧ rfAt ts.length L fun i => if j = 0 then true else vt P (ts.getD i 0) a) (fun i _ _ _ => 1 - (intOf i).toNat)
      case atStart => exact ⟨0, _, _, _, _, _, _, by omega, rfl, F3.out, Nat.le_refl _, fun i hi => by dsimp only; rw [if_pos rfl]; exact R4.out i hi⟩
      case round =>
        clear F3 R4
        obtain ⟨j, c3, v6', v7', tx', hs', L', hj, rfl, hF, hxl, hR⟩ := hrel
        obtain ⟨w3, hw3⟩ : ∃ W, W = wr := ⟨_, rfl⟩
        subst hw3
        have F3 := Lib.hid hF
        have R3 := Lib.hid hR
        clear hF hR
        have q1 := F3.out.box.cell 0
        have q3 := F3.out.box.lt
        have hj01 : j = 0 ∨ j = 1 := by omega
        rcases hj01 with rfl | rfl
        · obtain ⟨b0, o0, rfl, hb0l, hc0⟩ := F3.out.la.atS (k := 0) (by simp)
          have hc0 : w3.cell? ⟨b0, o0, none⟩ = some (.string (txt a)) := by simpa using hc0
          have HRR := Lib.hid (HRa.out c3 v6' v7' tx' hs' (by omega) w3 F3.out.sp)
          go_wp2_with fail
          refine HRR.out.mono ?_
          rintro e w4 ⟨u, c4, v6'', v7'', tx'', hs'', rfl, hu, huc, hsp, hxl2, hsame, hkp⟩
          have F4 := Lib.hid (F3.out.row hsp hsame hkp)
          obtain ⟨A8, k8, e8⟩ := hu.opn
          rw [rwL_length] at e8
          subst e8
          have U4 := Lib.hid hu
          have UC := Lib.hid huc
          have X4 : Hid (tx''.length ≤ tx.length + 1) := Lib.hid (by omega)
          have R4 : Hid (rfAt ts.length L' fun i => if i < 0 then vt P (ts.getD i 0) a else true) := Lib.hid (rfAt.start (r := fun i => vt P (ts.getD i 0) a) (q := fun _ => true) fun i hi => R3.out i hi)
          clear hu huc hsp hxl hxl2 hsame hkp F3 R3 q1 q3 hc0 hb0l HRR
          go_wp2
          go_loopw [9] (fun i wr => ∃ (k : Nat) (L : List Bool), k ≤ ts.length ∧ i = .int .i64 k ∧ FsI P B p w c c4 v1 v2 v3 v4 (.slice A5 ts.length k5) v6'' v7'' ts tx'' hs'' w.heap.size g (some ⟨b0, o0, none⟩) A1 k0 k1 a b L wr ∧ Sl cB wr (.slice A8 ts.length k8) (rwL P ts a) ∧ rfAt ts.length L fun i => if i < k then vt P (ts.getD i 0) a else true) (fun i _ => ts.length - (intOf i).toNat)
          case atStart => exact ⟨0, _, Nat.zero_le _, rfl, F4.out, U4.out, R4.out⟩
          case round =>
            clear F4 U4 R4
            obtain ⟨k, L5, hk, rfl, hF, hU, hR⟩ := hrel
            obtain ⟨w5, hw5⟩ : ∃ W, W = wr := ⟨_, rfl⟩
            subst hw5
            have F5 := Lib.hid hF
            have U5 := Lib.hid hU
            have R5 := Lib.hid hR
            clear hF hU hR
            by_cases hlt : k < ts.length
            · have i1 : (k : Int) < (ts.length : Int) := by omega
              have hR5 := R5.out k hlt
              simp only [Nat.lt_irrefl, if_false] at hR5
              obtain ⟨q1, q2, q3⟩ := F5.out.cell hlt hR5
              obtain ⟨b8, o8, rfl, hb8, hc8⟩ := U5.out.atB (k := k) (by rw [rwL_length]; exact hlt)
              rw [rwL_at] at hc8
              have F6 := Lib.hid (F5.out.set hlt HGG.out (vt P (ts.getD k 0) a))
              have U6 := Lib.hid (U5.out.kps (keepP g k (.bool (vt P (ts.getD k 0) a))) fun x e e2 => by
                have h1 := (UC.out x e).1
                rw [e2, F5.out.cg] at h1
                cases h1)
              have R6 := Lib.hid (rfAt.set (r := fun i => vt P (ts.getD i 0) a) (q := fun _ => true) F5.out.len hlt R5.out)
              clear F5 U5 R5 hR5
              generalize vt P (ts.getD k 0) a = ra at *
              go_wp2
              clear q1 q2 q3 hc8 hb8
              go_roundw
              case rel => exact ⟨k + 1, _, by omega, by go_num, F6.out, U6.out, R6.out⟩
              case measure => simp [intOf]; omega
            · obtain rfl : k = ts.length := by omega
              have R6 : Hid (rfAt ts.length L5 fun i => if 0 + 1 = 0 then true else vt P (ts.getD i 0) a) := Lib.hid (rfAt.done (r := fun i => vt P (ts.getD i 0) a) (q := fun _ => true) R5.out)
              clear hlt hk R5
              go_wp2
              go_roundw
              case rel => exact ⟨0 + 1, _, _, _, _, _, _, by omega, by go_num, F5.out, X4.out, R6.out⟩
              case measure => simp [intOf]
        · rw [show ((1 : Nat) : Int) = 1 from rfl]
          have R4 : Hid (rfAt ts.length L' fun i => vt P (ts.getD i 0) a) := Lib.hid fun i hi => by
            have h2 := R3.out i hi
            dsimp only at h2
            rw [if_neg (by decide)] at h2
            exact h2
          have X4 : Hid (tx'.length ≤ tx.length + 1) := Lib.hid hxl
          clear R3 hxl hj
          go_upto_region 15 with fail
          clear q1 q3
          go_loopw [10, 11, 12] (fun i x8 x9 wr => ∃ (j : Nat) (c3 : Nat → Nat) (v6' v7' : Value) (tx' : List Fm) (hs' : List Hd) (L : List Bool), j ≤ 1 ∧ i = .int .i64 j ∧ FsI P B p w c c3 v1 v2 v3 v4 (.slice A5 ts.length k5) v6' v7' ts tx' hs' w.heap.size g A0 A1 k0 k1 a b L wr ∧ tx'.length ≤ tx.length + 1 + j ∧ rfAt ts.length L fun i => if j = 0 then vt P (ts.getD i 0) a else vt P (ts.getD i 0) a && !vt P (ts.getD i 0) b) (fun i _ _ _ => 1 - (intOf i).toNat)
          case atStart => exact ⟨0, _, _, _, _, _, _, by omega, rfl, F3.out, X4.out, fun i hi => by dsimp only; rw [if_pos rfl]; exact R4.out i hi⟩
          case round =>
            clear F3 R4 X4
            obtain ⟨j, c3, v6', v7', tx', hs', L', hj, rfl, hF, hxl, hR⟩ := hrel
            obtain ⟨w3, hw3⟩ : ∃ W, W = wr := ⟨_, rfl⟩
            subst hw3
            have F3 := Lib.hid hF
            have R3 := Lib.hid hR
            clear hF hR
            have q1 : w3.cell? ⟨w.heap.size, 1, none⟩ = some (.slice A1 1 k1) := F3.out.box.cell 1
            have q3 := F3.out.box.lt
            have hj01 : j = 0 ∨ j = 1 := by omega
            rcases hj01 with rfl | rfl
            · obtain ⟨b0, o0, rfl, hb0l, hc0⟩ := F3.out.lb.atS (k := 0) (by simp)
              have hc0 : w3.cell? ⟨b0, o0, none⟩ = some (.string (txt b)) := by simpa using hc0
              have HRR := Lib.hid (HRb.out c3 v6' v7' tx' hs' (by omega) w3 F3.out.sp)
              go_wp2_with fail
              refine HRR.out.mono ?_
              rintro e w4 ⟨u, c4, v6'', v7'', tx'', hs'', rfl, hu, huc, hsp, hxl2, hsame, hkp⟩
              have F4 := Lib.hid (F3.out.row hsp hsame hkp)
              obtain ⟨A8, k8, e8⟩ := hu.opn
              rw [rwL_length] at e8
              subst e8
              have U4 := Lib.hid hu
              have UC := Lib.hid huc
              have X4 : Hid (tx''.length ≤ tx.length + 1 + 1) := Lib.hid (by omega)
              have R4 : Hid (rfAt ts.length L' fun i => if i < 0 then vt P (ts.getD i 0) a && !vt P (ts.getD i 0) b else vt P (ts.getD i 0) a) := Lib.hid (rfAt.start (r := fun i => vt P (ts.getD i 0) a && !vt P (ts.getD i 0) b) (q := fun i => vt P (ts.getD i 0) a) fun i hi => R3.out i hi)
              clear hu huc hsp hxl hxl2 hsame hkp F3 R3 q1 q3 hc0 hb0l HRR
              go_wp2
              go_loopw [12] (fun i wr => ∃ (k : Nat) (L : List Bool), k ≤ ts.length ∧ i = .int .i64 k ∧ FsI P B p w c c4 v1 v2 v3 v4 (.slice A5 ts.length k5) v6'' v7'' ts tx'' hs'' w.heap.size g A0 (some ⟨b0, o0, none⟩) k0 k1 a b L wr ∧ Sl cB wr (.slice A8 ts.length k8) (rwL P ts b) ∧ rfAt ts.length L fun i => if i < k then vt P (ts.getD i 0) a && !vt P (ts.getD i 0) b else vt P (ts.getD i 0) a) (fun i _ => ts.length - (intOf i).toNat)
              case atStart => exact ⟨0, _, Nat.zero_le _, rfl, F4.out, U4.out, R4.out⟩
              case round =>
                clear F4 U4 R4
                obtain ⟨k, L5, hk, rfl, hF, hU, hR⟩ := hrel
                obtain ⟨w5, hw5⟩ : ∃ W, W = wr := ⟨_, rfl⟩
                subst hw5
                have F5 := Lib.hid hF
                have U5 := Lib.hid hU
                have R5 := Lib.hid hR
                clear hF hU hR
                by_cases hlt : k < ts.length
                · have i1 : (k : Int) < (ts.length : Int) := by omega
                  have hR5 := R5.out k hlt
                  simp only [Nat.lt_irrefl, if_false] at hR5
                  obtain ⟨q1, q2, q3⟩ := F5.out.cell hlt hR5
                  obtain ⟨b8, o8, rfl, hb8, hc8⟩ := U5.out.atB (k := k) (by rw [rwL_length]; exact hlt)
                  rw [rwL_at] at hc8
                  have F6 := Lib.hid (F5.out.set hlt HGG.out (vt P (ts.getD k 0) a && !vt P (ts.getD k 0) b))
                  have U6 := Lib.hid (U5.out.kps (keepP g k (.bool (vt P (ts.getD k 0) a && !vt P (ts.getD k 0) b))) fun x e e2 => by
                    have h1 := (UC.out x e).1
                    rw [e2, F5.out.cg] at h1
                    cases h1)
                  have R6 : Hid (rfAt ts.length (L5.set k (vt P (ts.getD k 0) a && !vt P (ts.getD k 0) b)) fun i => if i < k + 1 then vt P (ts.getD i 0) a && !vt P (ts.getD i 0) b else vt P (ts.getD i 0) a) := Lib.hid (rfAt.set (r := fun i => vt P (ts.getD i 0) a && !vt P (ts.getD i 0) b) (q := fun i => vt P (ts.getD i 0) a) F5.out.len hlt R5.out)
                  clear F5 U5 R5 hR5
                  generalize vt P (ts.getD k 0) a = ra at *
                  generalize vt P (ts.getD k 0) b = rb at *
                  cases ra <;> cases rb
                  all_goals
                    go_wp2
                    clear q1 q2 q3 hc8 hb8
                    go_roundw
                    case rel => exact ⟨k + 1, _, by omega, by go_num, F6.out, U6.out, R6.out⟩
                    case measure => simp [intOf]; omega
                · obtain rfl : k = ts.length := by omega
                  have R6 : Hid (rfAt ts.length L5 fun i => if 0 + 1 = 0 then vt P (ts.getD i 0) a else vt P (ts.getD i 0) a && !vt P (ts.getD i 0) b) := Lib.hid (rfAt.done (r := fun i => vt P (ts.getD i 0) a && !vt P (ts.getD i 0) b) (q := fun i => vt P (ts.getD i 0) a) R5.out)
                  clear hlt hk R5
                  go_wp2
                  go_roundw
                  case rel =>
                    exact ⟨0 + 1, _, _, _, _, _, _, by omega, by go_num, F5.out, X4.out, R6.out⟩
                  case measure => simp [intOf]
            · have R4 : Hid (rfAt ts.length L' fun i => vt P (ts.getD i 0) a && !vt P (ts.getD i 0) b) := Lib.hid fun i hi => by
                have h2 := R3.out i hi
                dsimp only at h2
                rw [if_neg (by decide)] at h2
                exact h2
              have X4 : Hid (tx'.length ≤ tx.length + 2) := Lib.hid hxl
              clear R3 hxl hj
              go_upto_region 23 with fail
              clear q1 q3
              have HANY : Hid (∀ k, k < ts.length → (ts.getD k 0) ∈ ts) := Lib.hid fun k hk => by
                rw [List.getD_eq_getElem?_getD, List.getElem?_eq_getElem hk]
                exact List.getElem_mem hk
              go_loopw [13] (fun i wr => ∃ j : Nat, j ≤ ts.length ∧ i = .int .i64 j ∧ (∀ k, k < j → (vt P (ts.getD k 0) a && !vt P (ts.getD k 0) b) = false) ∧ wr = w3) (fun i _ => ts.length - (intOf i).toNat)
              case atStart => exact ⟨0, Nat.zero_le _, rfl, fun k hk => by omega, rfl⟩
              case round =>
                obtain ⟨j, hj, rfl, hno, rfl⟩ := hrel
                obtain ⟨w3, hw3⟩ : ∃ W, W = wr := ⟨_, rfl⟩
                subst hw3
                have HNO := Lib.hid hno
                clear hno
                by_cases hlt : j < ts.length
                · have i1 : (j : Int) < (ts.length : Int) := by omega
                  have hR4 := R4.out j hlt
                  dsimp only at hR4
                  obtain ⟨q1, q2, q3⟩ := F3.out.cell hlt hR4
                  clear hR4
                  cases hq : (vt P (ts.getD j 0) a && !vt P (ts.getD j 0) b)
                  · rw [hq] at q1
                    have HN2 : Hid (∀ k, k < j + 1 → (vt P (ts.getD k 0) a && !vt P (ts.getD k 0) b) = false) := Lib.hid fun k hk => by
                      rcases Nat.lt_or_ge k j with h | h
                      · exact HNO.out k h
                      · obtain rfl : k = j := by omega
                        exact hq
                    clear hq
                    go_wp2
                    go_roundw
                    case rel => exact ⟨j + 1, by omega, by go_num, HN2.out, trivial⟩
                    case measure => simp [intOf]; omega
                  · rw [hq] at q1
                    have HY : Hid ((ts.any fun t => vt P t a && !vt P t b) = true) := Lib.hid (List.any_eq_true.2 ⟨_, HANY.out j hlt, hq⟩)
                    obtain ⟨b5, o5, rfl, hb5, hc5⟩ := F3.out.sp.types.atI (k := j) (by rw [li_length]; exact hlt)
                    rw [li_get] at hc5
                    have c5 : w3.cell? ⟨p, 5, none⟩ = some (.slice (some ⟨b5, o5, none⟩) ts.length k5) := F3.out.sp.blk.cell 5
                    have c2 := F3.out.sp.blk.lt
                    have HF := Lib.hid (show decide (((ts.getD j 0 : Nat) : Int) < 0) = false from decide_eq_false (by omega))
                    clear hq
                    generalize ts.getD j 0 = tj at *
                    go_wp2
                    go_ret
                    exact ⟨_, _, _, _, _, _, rfl, by rw [HY.out, HF.out]; rfl, F3.out.sp, X4.out, F3.out.same, F3.out.kp⟩
                · obtain rfl : j = ts.length := by omega
                  have HY : Hid ((ts.any fun t => vt P t a && !vt P t b) = false) := Lib.hid (by
                    rw [← Bool.not_eq_true, List.any_eq_true]
                    rintro ⟨t, ht, h2⟩
                    obtain ⟨k, hk, rfl⟩ := List.mem_iff_getElem.1 ht
                    have h3 := HNO.out k hk
                    rw [List.getD_eq_getElem?_getD, List.getElem?_eq_getElem hk] at h3
                    have h4 : (vt P ts[k] a && !vt P ts[k] b) = false := h3
                    rw [h2] at h4
                    cases h4)
                  go_wp2
                  go_ret
                  exact ⟨_, _, _, _, _, _, rfl, by rw [HY.out]; rfl, F3.out.sp, X4.out, F3.out.same, F3.out.kp⟩
end Go.Proofs.YtgcoohlakcncbaaGreat
