/- A space of types with its memory of rows; the rows of values; the first refuting type. Contracts of the reference. -/
import Derived.Test.YtgcoohlakcncbaaGreat12Y
namespace Go.Proofs.YtgcoohlakcncbaaGreat
open Go.RowKit
set_option linter.unusedVariables false
set_option linter.unusedSimpArgs false
def rwL (P : List Fm) (ts : List Nat) (f : Fm) : List Bool := ts.map fun t => vt P t f
theorem rwL_length (P : List Fm) (ts : List Nat) (f : Fm) : (rwL P ts f).length = ts.length := List.length_map ..
theorem rwL_take (P : List Fm) (ts : List Nat) (f : Fm) (k : Nat) (h : k < ts.length) : (rwL P ts f).take (k + 1) = (rwL P ts f).take k ++ [vt P ts[k] f] := by
  rw [List.take_succ_eq_append_getElem (by rw [rwL_length]; exact h)]
  congr 1
  simp [rwL]
def scCells (v1 v2 v3 v4 v5 v6 v7 : Value) : Array Value := #[.string ⟨#[71, 76]⟩, v1, v2, v3, v4, v5, v6, v7]
structure SpC (P : List Fm) (B p : Nat) (c : Nat → Nat) (v1 v2 v3 v4 v5 v6 v7 : Value) (ts : List Nat) (tx ty : List Fm) (hs : List Hd) (W : World) : Prop where
  blk : Blk W p 182 (scCells v1 v2 v3 v4 v5 v6 v7)
  cp : c p = 1
  bp : B ≤ p
  low : ∀ k, k < B → c k = 0
  parts : Sl cS W v1 (P.map txt)
  c1 : ∀ k, v1.ownBlock = some k → c k = 0 ∧ k < W.heap.size
  types : Sl cI W v5 (li ts)
  c5 : ∀ k, v5.ownBlock = some k → c k = 0 ∧ k < W.heap.size
  texts : Ow cS 9 B W v6 (tx.map txt)
  c6 : ∀ k, v6.ownBlock = some k → c k = 2
  rows : Ow cH 129 B W v7 hs
  c7 : ∀ k, v7.ownBlock = some k → c k = 3
  hl : hs.length = ty.length
  rw : ∀ i (h : i < hs.length), Sl cB W hs[i].val (rwL P ts (ty.getD i .fls)) ∧ ∀ k, hs[i].val.ownBlock = some k → c k = 5 ∧ k < W.heap.size
  ok : ∀ g ∈ tx, g.ok = true
theorem SpC.below {P : List Fm} {B p : Nat} {c : Nat → Nat} {v1 v2 v3 v4 v5 v6 v7 : Value} {ts : List Nat} {tx ty : List Fm} {hs : List Hd} {W W' : World} (h : SpC P B p c v1 v2 v3 v4 v5 v6 v7 ts tx ty hs W) (hb : Below W.heap.size W W') : SpC P B p c v1 v2 v3 v4 v5 v6 v7 ts tx ty hs W' :=
  ⟨h.blk.below hb h.blk.lt, h.cp, h.bp, h.low, h.parts.below hb, fun k e => ⟨(h.c1 k e).1, Nat.lt_of_lt_of_le (h.c1 k e).2 hb.size⟩, h.types.below hb, fun k e => ⟨(h.c5 k e).1, Nat.lt_of_lt_of_le (h.c5 k e).2 hb.size⟩,
    h.texts.below hb, h.c6, h.rows.below hb, h.c7, h.hl, fun i hi => ⟨(h.rw i hi).1.below hb, fun k e => ⟨((h.rw i hi).2 k e).1, Nat.lt_of_lt_of_le ((h.rw i hi).2 k e).2 hb.size⟩⟩, h.ok⟩
theorem SpC.recl {P : List Fm} {B p : Nat} {c : Nat → Nat} {v1 v2 v3 v4 v5 v6 v7 : Value} {ts : List Nat} {tx ty : List Fm} {hs : List Hd} {W : World} (h : SpC P B p c v1 v2 v3 v4 v5 v6 v7 ts tx ty hs W) (c' : Nat → Nat) (he : ∀ k, k < W.heap.size → c' k = c k) : SpC P B p c' v1 v2 v3 v4 v5 v6 v7 ts tx ty hs W :=
  ⟨h.blk, by rw [he p h.blk.lt]; exact h.cp, h.bp, fun k hk => by rw [he k (by have := h.blk.lt; have := h.bp; omega)]; exact h.low k hk, h.parts, fun k e => ⟨by rw [he k (h.c1 k e).2]; exact (h.c1 k e).1, (h.c1 k e).2⟩, h.types, fun k e => ⟨by rw [he k (h.c5 k e).2]; exact (h.c5 k e).1, (h.c5 k e).2⟩,
    h.texts, fun k e => by rw [he k (h.texts.block k e).2]; exact h.c6 k e, h.rows, fun k e => by rw [he k (h.rows.block k e).2]; exact h.c7 k e, h.hl,
    fun i hi => ⟨(h.rw i hi).1, fun k e => ⟨by rw [he k ((h.rw i hi).2 k e).2]; exact ((h.rw i hi).2 k e).1, ((h.rw i hi).2 k e).2⟩⟩, h.ok⟩
theorem SpC.sp {P : List Fm} {B p : Nat} {c : Nat → Nat} {v1 v2 v3 v4 v5 v6 v7 : Value} {ts : List Nat} {tx ty : List Fm} {hs : List Hd} {W : World} (h : SpC P B p c v1 v2 v3 v4 v5 v6 v7 ts tx ty hs W) : SpP P p W := by
  have hs := h.parts
  obtain ⟨A, k, e⟩ := hs.opn
  rw [List.length_map] at e
  subst e
  exact ⟨A, k, h.blk.lt, h.blk.cell 1, hs⟩
/-- one text more -/
theorem SpC.put6 {P : List Fm} {B p : Nat} {c : Nat → Nat} {v1 v2 v3 v4 v5 v6 v7 v6' : Value} {ts : List Nat} {tx ty : List Fm} {hs : List Hd} {W W1 : World} (h : SpC P B p c v1 v2 v3 v4 v5 v6 v7 ts tx ty hs W) {f : Fm} (hf : f.ok = true) (hk : KpC c 2 W W1) (ho : Ow cS 9 B W1 v6' ((tx ++ [f]).map txt)) (hat : ∀ k, v6'.ownBlock = some k → v6.ownBlock = some k ∨ W.heap.size ≤ k) :
    SpC P B p (recol c W.heap.size 2) v1 v2 v3 v4 v5 v6' v7 ts (tx ++ [f]) ty hs (W1.setCell ⟨p, 6, none⟩ v6') := by
  have hS := hk.put h.cp 6 v6'
  have hsz : W.heap.size ≤ (W1.setCell ⟨p, 6, none⟩ v6').heap.size := hS.size
  have hpl := h.blk.lt
  have hbp := h.bp
  refine ⟨((h.blk.kps hk (by rw [h.cp]; decide)).set_ 6 v6'), by rw [recol_lt _ _ _ _ hpl]; exact h.cp, h.bp, fun k hk => by rw [recol_lt _ _ _ _ (by omega)]; exact h.low k hk, h.parts.kps hS fun k e => by rw [(h.c1 k e).1]; decide, fun k e => ⟨by rw [recol_lt _ _ _ _ (h.c1 k e).2]; exact (h.c1 k e).1, Nat.lt_of_lt_of_le (h.c1 k e).2 hsz⟩,
    h.types.kps hS fun k e => by rw [(h.c5 k e).1]; decide, fun k e => ⟨by rw [recol_lt _ _ _ _ (h.c5 k e).2]; exact (h.c5 k e).1, Nat.lt_of_lt_of_le (h.c5 k e).2 hsz⟩, ho.kps (keepP p 6 v6') fun k e e2 => ?_, fun k e => ?_,
    h.rows.kps hS fun k e => by rw [h.c7 k e]; decide, fun k e => by rw [recol_lt _ _ _ _ (h.rows.block k e).2]; exact h.c7 k e, h.hl,
    fun i hi => ⟨(h.rw i hi).1.kps hS fun k e => by rw [((h.rw i hi).2 k e).1]; decide, fun k e => ⟨by rw [recol_lt _ _ _ _ ((h.rw i hi).2 k e).2]; exact ((h.rw i hi).2 k e).1, Nat.lt_of_lt_of_le ((h.rw i hi).2 k e).2 hsz⟩⟩, fun g hg => ?_⟩
  · subst e2
    rcases hat _ e with e3 | e3
    · have h1 := h.c6 _ e3; rw [h.cp] at h1; cases h1
    · omega
  · rcases hat _ e with e3 | e3
    · rw [recol_lt _ _ _ _ (h.texts.block k e3).2]; exact h.c6 k e3
    · exact recol_ge _ _ _ _ e3
  · rw [List.mem_append, List.mem_singleton] at hg
    rcases hg with hg | rfl
    · exact h.ok g hg
    · exact hf
/-- one row more -/
theorem SpC.put7 {P : List Fm} {B p : Nat} {c : Nat → Nat} {v1 v2 v3 v4 v5 v6 v7 v7' : Value} {ts : List Nat} {tx ty : List Fm} {hs : List Hd} {x : Hd} {W W1 : World} (h : SpC P B p c v1 v2 v3 v4 v5 v6 v7 ts tx ty hs W) {f : Fm} (hk : KpC c 3 W W1) (ho : Ow cH 129 B W1 v7' (hs ++ [x])) (hat : ∀ k, v7'.ownBlock = some k → v7.ownBlock = some k ∨ W.heap.size ≤ k)
    (hx : Sl cB W x.val (rwL P ts f)) (hxc : ∀ k, x.val.ownBlock = some k → c k = 5 ∧ k < W.heap.size) :
    SpC P B p (recol c W.heap.size 3) v1 v2 v3 v4 v5 v6 v7' ts tx (ty ++ [f]) (hs ++ [x]) (W1.setCell ⟨p, 7, none⟩ v7') := by
  have hS := hk.put h.cp 7 v7'
  have hsz : W.heap.size ≤ (W1.setCell ⟨p, 7, none⟩ v7').heap.size := hS.size
  have hpl := h.blk.lt
  have hbp := h.bp
  refine ⟨((h.blk.kps hk (by rw [h.cp]; decide)).set_ 7 v7'), by rw [recol_lt _ _ _ _ hpl]; exact h.cp, h.bp, fun k hk => by rw [recol_lt _ _ _ _ (by omega)]; exact h.low k hk, h.parts.kps hS fun k e => by rw [(h.c1 k e).1]; decide, fun k e => ⟨by rw [recol_lt _ _ _ _ (h.c1 k e).2]; exact (h.c1 k e).1, Nat.lt_of_lt_of_le (h.c1 k e).2 hsz⟩,
    h.types.kps hS fun k e => by rw [(h.c5 k e).1]; decide, fun k e => ⟨by rw [recol_lt _ _ _ _ (h.c5 k e).2]; exact (h.c5 k e).1, Nat.lt_of_lt_of_le (h.c5 k e).2 hsz⟩,
    h.texts.kps hS fun k e => by rw [h.c6 k e]; decide, fun k e => by rw [recol_lt _ _ _ _ (h.texts.block k e).2]; exact h.c6 k e, ho.kps (keepP p 7 v7') fun k e e2 => ?_, fun k e => ?_, by rw [List.length_append, List.length_append, h.hl]; rfl,
    fun i hi => ?_, h.ok⟩
  · subst e2
    rcases hat _ e with e3 | e3
    · have h1 := h.c7 _ e3; rw [h.cp] at h1; cases h1
    · omega
  · rcases hat _ e with e3 | e3
    · rw [recol_lt _ _ _ _ (h.rows.block k e3).2]; exact h.c7 k e3
    · exact recol_ge _ _ _ _ e3
  · by_cases hi2 : i < hs.length
    · rw [List.getElem_append_left hi2]
      have e4 : (ty ++ [f]).getD i .fls = ty.getD i .fls := by rw [List.getD_eq_getElem?_getD, List.getElem?_append_left (by rw [← h.hl]; exact hi2), ← List.getD_eq_getElem?_getD]
      rw [e4]
      exact ⟨(h.rw i hi2).1.kps hS fun k e => by rw [((h.rw i hi2).2 k e).1]; decide, fun k e => ⟨by rw [recol_lt _ _ _ _ ((h.rw i hi2).2 k e).2]; exact ((h.rw i hi2).2 k e).1, Nat.lt_of_lt_of_le ((h.rw i hi2).2 k e).2 hsz⟩⟩
    · have hib : i = hs.length := by rw [List.length_append, List.length_singleton] at hi; omega
      have e : (hs ++ [x])[i] = x := by rw [List.getElem_append_right (by omega)]; simp [hib]
      have e4 : (ty ++ [f]).getD i .fls = f := by rw [List.getD_eq_getElem?_getD, hib, h.hl, List.getElem?_append_right (Nat.le_refl _)]; simp
      rw [e, e4]
      exact ⟨hx.kps hS fun k e => by rw [(hxc k e).1]; decide, fun k e => ⟨by rw [recol_lt _ _ _ _ (hxc k e).2]; exact (hxc k e).1, Nat.lt_of_lt_of_le (hxc k e).2 hsz⟩⟩
theorem ty_bool12R : Ty Tryz.prog 129 4 (.bool false) 1 1 := Ty.mk' Tryz.underlying129 (by kernel_rfl) rfl (by decide)
theorem ty_rows12 : Ty Tryz.prog 180 129 (.slice none 0 0) 1 24 := Ty.mk' Tryz.underlying180 (by kernel_rfl) rfl (by decide)
theorem KpS.then' {S T : Nat → Prop} {a b c : World} (h : KpS S a b) (k : KpS T b c) (hT : ∀ x, x < a.heap.size → T x → S x) : KpS S a c :=
  ⟨k.os.trans h.os, k.tape.trans h.tape, k.output.trans h.output, Nat.le_trans h.size k.size, fun x hx hn => (k.block x (Nat.lt_of_lt_of_le hx h.size) fun ht => hn (hT x hx ht)).trans (h.block x hx hn)⟩
/-- the blocks of a space that a row may change -/
def KpM (c : Nat → Nat) (w w' : World) : Prop := KpS (fun k => c k = 1 ∨ c k = 2 ∨ c k = 3) w w'
set_option maxRecDepth 100000 in
set_option maxHeartbeats 1000000 in
theorem spec_l12Row (P : List Fm) (B p : Nat) (c : Nat → Nat) (v1 v2 v3 v4 v5 v6 v7 : Value) (ts : List Nat) (tx : List Fm) (hs : List Hd) (f : Fm) (hP : P.length ≤ 8) (hPok : ∀ g ∈ P, g.ok = true) (hf : f.ok = true) (h40 : (enc f).length ≤ 40) (hin : inP P f) (hts : ∀ t ∈ ts, t < 256) (hl : ts.length ≤ 256) (hx : tx.length ≤ 1000) (w : World) (h : SpC P B p c v1 v2 v3 v4 v5 v6 v7 ts tx tx hs w) :
    Calls Tryz.prog 205 #[.pointer (some ⟨p, 0, none⟩), .string (txt f)] w fun e w' => ∃ u c' v6' v7' tx' hs', e = .returned u ∧ Sl cB w' u (rwL P ts f) ∧ (∀ k, u.ownBlock = some k → c' k = 5 ∧ k < w'.heap.size) ∧ SpC P B p c' v1 v2 v3 v4 v5 v6' v7' ts tx' tx' hs' w' ∧ tx'.length ≤ tx.length + 1 ∧
      (∀ k, k < w.heap.size → c' k = c k) ∧ KpM c w w' := by
  have H := Lib.hid h
  obtain ⟨A5, k5, e5⟩ := h.types.opn
  rw [li_length] at e5
  subst e5
  obtain ⟨A6, k6, e6⟩ := h.texts.opn
  rw [List.length_map] at e6
  subst e6
  obtain ⟨A7, k7, e7⟩ := h.rows.opn
  rw [h.hl] at e7
  subst e7
  have b6 : w.cell? ⟨p, 6, none⟩ = some (.slice A6 tx.length k6) := h.blk.cell 6
  have b7 : w.cell? ⟨p, 7, none⟩ = some (.slice A7 tx.length k7) := h.blk.cell 7
  have b2 := h.blk.lt
  have HTr := Lib.hid (fun t (ht : t < 256) => spec_l12True P t p (by omega) (by omega) hPok f hf h40 hin)
  have HT := Lib.hid (fun W => spec_l02GoodG f W hf h40)
  have HF := Lib.hid hf
  have HTS := Lib.hid (fun k (hk : k < ts.length) => hts ts[k] (List.getElem_mem hk))
  clear h hPok hf h40 hin hts
  go_enter Tryz.func205, Tryz.ntmps205
  go_wp2
  go_loopw [5] (fun i wr => ∃ j : Nat, j ≤ tx.length ∧ i = .int .i64 j ∧ wr = w) (fun i _ => tx.length - (intOf i).toNat)
  case atStart => exact ⟨0, Nat.zero_le _, rfl, rfl⟩
  case round =>
    obtain ⟨j, hj, rfl, rfl⟩ := hrel
    obtain ⟨w, hw⟩ : ∃ W, W = wr := ⟨_, rfl⟩
    subst hw
    by_cases hlt : j < tx.length
    · have i1 : (j : Int) < (tx.length : Int) := by omega
      obtain ⟨b, o, rfl, hbl, hc0⟩ := H.out.texts.sl.atS (k := j) (by rw [List.length_map]; exact hlt)
      rw [List.getElem_map] at hc0
      by_cases he : txt tx[j] = txt f
      · have hq : tx[j] = f := txt_inj (H.out.ok _ (List.getElem_mem hlt)) HF.out he
        have hjh : j < hs.length := by rw [H.out.hl]; exact hlt
        obtain ⟨b9, o9, rfl, hb9, hc9⟩ := H.out.rows.sl.cell (k := j) hjh
        have hc9 : w.cell? ⟨b9, o9 + j, none⟩ = some hs[j].val := by simpa [cH] using hc9 0 hs[j].val rfl
        have hrow := H.out.rw j hjh
        have e4 : tx.getD j .fls = f := by rw [List.getD_eq_getElem?_getD, List.getElem?_eq_getElem hlt, hq]; rfl
        rw [e4] at hrow
        have HR := Lib.hid hrow
        rw [he] at hc0
        clear he hq hrow e4
        generalize hs[j].val = hv at *
        generalize txt f = tf at *
        go_wp2
        go_ret
        exact ⟨_, _, _, _, _, _, rfl, HR.out.1, HR.out.2, H.out, Nat.le_succ _, fun k hk => rfl, KpS.refl _ _⟩
      · have hne : ((txt tx[j]).toList == (txt f).toList) = false := beq_eq_false_iff_ne.2 (ba_ne he)
        clear he
        generalize txt tx[j] = tj at *
        generalize txt f = tf at *
        go_wp2
        go_roundw
        case rel => exact ⟨j + 1, by omega, by go_num, trivial⟩
        case measure => simp [intOf]; omega
    · obtain rfl : j = tx.length := by omega
      go_wp2_with fail
      refine (HT.out _).mono ?_
      rintro e w3 ⟨A3, c3, rfl, ho3, hb3⟩
      have O3 := Lib.hid ho3.sl
      have S3 := Lib.hid (H.out.below hb3)
      have B3 := Lib.hid hb3
      clear ho3 hb3 b6 b7 b2
      go_upto_region 8 with fail
      have R0 := Lib.hid (Ow.lit (K := cB) (e := 4) (w := w3) (B := w3.heap.size) [] rfl rfl (Nat.le_refl _))
      have B34 := Lib.hid (below_alloc' w3 (.cells #[] 4))
      have b5 : (World.alloc w3 (.cells #[] 4)).cell? ⟨p, 5, none⟩ = some (.slice A5 ts.length k5) := (S3.out.below B34.out).blk.cell 5
      have b2 := (S3.out.below B34.out).blk.lt
      generalize World.alloc w3 _ = w4 at *
      go_wp2
      clear b5 b2
      go_loopw [8, 9] (fun rv i wr => ∃ k : Nat, k ≤ ts.length ∧ i = .int .i64 k ∧ Ow cB 4 w3.heap.size wr rv ((rwL P ts f).take k) ∧ Below w3.heap.size w3 wr) (fun _ i _ => ts.length - (intOf i).toNat)
      case atStart => exact ⟨0, Nat.zero_le _, rfl, by rw [List.take_zero]; exact R0.out, B34.out⟩
      case round =>
        clear R0 B34
        obtain ⟨k, hk, rfl, ho, hb⟩ := hrel
        obtain ⟨w5, hw5⟩ : ∃ W, W = wr := ⟨_, rfl⟩
        subst hw5
        have hkl : ((rwL P ts f).take k).length = k := by rw [List.length_take, rwL_length]; omega
        obtain ⟨A8, c8, e8⟩ := ho.opn
        rw [hkl] at e8
        subst e8
        have HKL := Lib.hid hkl
        have O5 := Lib.hid ho
        have B35 := Lib.hid hb
        have S5 := Lib.hid (S3.out.below hb)
        have F5 := Lib.hid (O3.out.below hb)
        clear ho hb hkl
        have b5 : w5.cell? ⟨p, 5, none⟩ = some (.slice A5 ts.length k5) := S5.out.blk.cell 5
        have b2 := S5.out.blk.lt
        by_cases hlt : k < ts.length
        · have i1 : (k : Int) < (ts.length : Int) := by omega
          obtain ⟨b, o, rfl, hbl, hc⟩ := S5.out.types.atI (k := k) (by rw [li_length]; exact hlt)
          have hle : (li ts)[k]'(by rw [li_length]; exact hlt) = ((ts[k] : Nat) : Int) := by simp [li]
          rw [hle] at hc
          have HX := Lib.hid (HTr.out ts[k] (HTS.out k hlt))
          have HRT := Lib.hid (rwL_take P ts f k hlt)
          have HSP := Lib.hid S5.out.sp
          clear hle
          generalize ts[k] = tk at *
          go_wp2_with fail
          refine (HX.out _ _ HSP.out F5.out).mono ?_
          rintro e w6 ⟨rfl, hb⟩
          have B36 := Lib.hid (bthen B35.out hb)
          have O6 := Lib.hid (O5.out.below hb)
          clear hb b5 b2 hc hbl
          generalize vt P tk f = rk at *
          go_wp2_with (at_builtin; refine stopHere ?_)
          refine goHere ?_
          refine ap_one (K := cB) _ ty_bool12R rfl _ _ rfl (B := w3.heap.size) (v := .slice A8 k c8) (xs := (rwL P ts f).take k) rfl O6.out rk rfl rfl (by rw [HKL.out]; omega) B36.out.size ?_
          intro v7 w7 ho hg1 hb1 hat1
          rw [← HRT.out] at ho
          have O7 := Lib.hid ho
          have B7 := Lib.hid (B36.out.trans hb1)
          clear ho hg1 hb1 hat1
          go_wp2
          go_roundw
          case rel => exact ⟨k + 1, by omega, by go_num, O7.out, B7.out⟩
          case measure => simp [intOf]; omega
        · obtain rfl : k = ts.length := by omega
          have hta : (rwL P ts f).take ts.length = rwL P ts f := by rw [← rwL_length P ts f, List.take_length]
          rw [hta] at O5
          clear hta hlt hk
          have hsz3 : w.heap.size ≤ w3.heap.size := B3.out.size
          have hsz5 : w3.heap.size ≤ w5.heap.size := B35.out.size
          have C5 : Hid (∀ k, (Value.slice A8 ts.length c8).ownBlock = some k → recol c w3.heap.size 5 k = 5 ∧ k < w5.heap.size) := Lib.hid fun k e => ⟨recol_ge _ _ _ _ (O5.out.block k e).1, (O5.out.block k e).2⟩
          have S5' := Lib.hid ((S3.out.recl (recol c w3.heap.size 5) (fun k hk => recol_lt _ _ _ _ hk)).below B35.out)
          have E5 : Hid (∀ k, k < w.heap.size → recol c w3.heap.size 5 k = c k) := Lib.hid fun k hk => recol_lt _ _ _ _ (by omega)
          have M5 : Hid (KpM c w w5) := Lib.hid (KpS.of (bthen B3.out B35.out))
          have R5 := Lib.hid O5.out.sl
          have HX := hx
          clear S5 S3 O5 B3 B35 F5 O3 HTr HT HTS
          generalize recol c w3.heap.size 5 = c5 at *
          have hbp := S5'.out.bp
          have b6 : w5.cell? ⟨p, 6, none⟩ = some (.slice A6 tx.length k6) := S5'.out.blk.cell 6
          have hq1 : p < w5.heap.size ∧ c5 p ≠ 2 := ⟨S5'.out.blk.lt, by rw [S5'.out.cp]; decide⟩
          go_wp2_with (at_builtin; refine stopHere ?_)
          refine goHere ?_
          refine ap_one (K := cS) _ ty_str rfl _ _ rfl (B := B) (v := .slice A6 tx.length k6) (xs := tx.map txt) rfl S5'.out.texts (txt f) rfl rfl (by rw [List.length_map]; omega) (by omega) ?_
          intro v6 w6 ho hg1 hb1 hat1
          have hk6 : KpC c5 2 w5 w6 := ((KpC.of (Below.refl _ _)).alloc _).grown hg1 S5'.out.c6
          have hmap : tx.map txt ++ [txt f] = (tx ++ [f]).map txt := by simp
          rw [hmap] at ho
          obtain ⟨A6', c6', e6⟩ := ho.opn
          rw [List.length_map, List.length_append, List.length_singleton] at e6
          subst e6
          have hput := hk6.put S5'.out.cp 6 (.slice A6' (tx.length + 1) c6')
          have S6 := Lib.hid (S5'.out.put6 HF.out hk6 ho fun k e => by
            rcases hat1 with h | h
            · exact .inl (h.symm.trans e)
            · rw [h] at e; injection e with e; exact .inr (by omega))
          have hszp : w5.heap.size ≤ (w6.setCell ⟨p, 6, none⟩ (.slice A6' (tx.length + 1) c6')).heap.size := hput.size
          have R6 := Lib.hid (R5.out.kps hput fun k e => by rw [(C5.out k e).1]; decide)
          have C6 : Hid (∀ k, (Value.slice A8 ts.length c8).ownBlock = some k → recol c5 w5.heap.size 2 k = 5 ∧ k < (w6.setCell ⟨p, 6, none⟩ (.slice A6' (tx.length + 1) c6')).heap.size) := Lib.hid fun k e => ⟨by rw [recol_lt _ _ _ _ (C5.out k e).2]; exact (C5.out k e).1, Nat.lt_of_lt_of_le (C5.out k e).2 hszp⟩
          have E6 : Hid (∀ k, k < w.heap.size → recol c5 w5.heap.size 2 k = c k) := Lib.hid fun k hk => by rw [recol_lt _ _ _ _ (by omega)]; exact E5.out k hk
          have M6 : Hid (KpM c w (w6.setCell ⟨p, 6, none⟩ (.slice A6' (tx.length + 1) c6'))) := Lib.hid (KpS.then' M5.out hput fun x hx2 hT => by
            rw [E5.out x hx2] at hT
            rcases hT with h | h
            · exact .inr (.inl h)
            · exact .inl h)
          have h2 : w6.cell? ⟨p, 6, none⟩ = some (.slice A6 tx.length k6) := (hk6.cell (p := ⟨p, 6, none⟩) hq1).trans b6
          have h3 : w6.frozen? ⟨p, 6, none⟩ = false := (KpS.frozen hk6 (p := ⟨p, 6, none⟩) hq1.1 hq1.2).trans (S5'.out.blk.frozen 6)
          have h4 : p < w6.heap.size := Nat.lt_of_lt_of_le hq1.1 (KpS.size hk6)
          clear ho hg1 hb1 hat1 hk6 b6 hq1 hput S5' R5 C5 M5 hmap b2 b5
          go_upto_region 13 with fail
          clear h2 h3 h4
          have hsz7 : w.heap.size ≤ (w6.setCell ⟨p, 6, none⟩ (.slice A6' (tx.length + 1) c6')).heap.size := by omega
          clear hszp hsz5 hsz3 E5
          generalize World.setCell w6 _ _ = w7 at *
          generalize recol c5 w5.heap.size 2 = c7 at *
          have b7 : w7.cell? ⟨p, 7, none⟩ = some (.slice A7 tx.length k7) := S6.out.blk.cell 7
          have hq1 : p < w7.heap.size ∧ c7 p ≠ 3 := ⟨S6.out.blk.lt, by rw [S6.out.cp]; decide⟩
          have hpl := hq1.1
          go_wp2_with (at_builtin; refine stopHere ?_)
          refine goHere ?_
          refine ap_one (K := cH) _ ty_rows12 rfl _ _ rfl (B := B) (v := .slice A7 tx.length k7) (xs := hs) rfl S6.out.rows ⟨A8, ts.length, c8⟩ rfl rfl (by rw [S6.out.hl]; omega) (by omega) ?_
          intro v8 w8 ho hg1 hb1 hat1
          have hk8 : KpC c7 3 w7 w8 := ((KpC.of (Below.refl _ _)).alloc _).grown hg1 S6.out.c7
          obtain ⟨A8', c8', e8⟩ := ho.opn
          rw [List.length_append, S6.out.hl, List.length_singleton] at e8
          subst e8
          have hput := hk8.put S6.out.cp 7 (.slice A8' (tx.length + 1) c8')
          have S8 := Lib.hid (S6.out.put7 (f := f) hk8 ho (fun k e => by
            rcases hat1 with h | h
            · exact .inl (h.symm.trans e)
            · rw [h] at e; injection e with e; exact .inr (by omega)) R6.out C6.out)
          have hszp : w7.heap.size ≤ (w8.setCell ⟨p, 7, none⟩ (.slice A8' (tx.length + 1) c8')).heap.size := hput.size
          have R8 := Lib.hid (R6.out.kps hput fun k e => by rw [(C6.out k e).1]; decide)
          have C8 : Hid (∀ k, (Value.slice A8 ts.length c8).ownBlock = some k → recol c7 w7.heap.size 3 k = 5 ∧ k < (w8.setCell ⟨p, 7, none⟩ (.slice A8' (tx.length + 1) c8')).heap.size) := Lib.hid fun k e => ⟨by rw [recol_lt _ _ _ _ (C6.out k e).2]; exact (C6.out k e).1, Nat.lt_of_lt_of_le (C6.out k e).2 hszp⟩
          have E8 : Hid (∀ k, k < w.heap.size → recol c7 w7.heap.size 3 k = c k) := Lib.hid fun k hk => by rw [recol_lt _ _ _ _ (by omega)]; exact E6.out k hk
          have M8 : Hid (KpM c w (w8.setCell ⟨p, 7, none⟩ (.slice A8' (tx.length + 1) c8'))) := Lib.hid (KpS.then' M6.out hput fun x hx2 hT => by
            rw [E6.out x hx2] at hT
            rcases hT with h | h
            · exact .inr (.inr h)
            · exact .inl h)
          have h2 : w8.cell? ⟨p, 7, none⟩ = some (.slice A7 tx.length k7) := (hk8.cell (p := ⟨p, 7, none⟩) hq1).trans b7
          have h3 : w8.frozen? ⟨p, 7, none⟩ = false := (KpS.frozen hk8 (p := ⟨p, 7, none⟩) hq1.1 hq1.2).trans (S6.out.blk.frozen 7)
          have h4 : p < w8.heap.size := Nat.lt_of_lt_of_le hq1.1 (KpS.size hk8)
          clear ho hg1 hb1 hat1 hk8 b7 hq1 hput S6 R6 C6 M6 E6 hszp hsz7 hpl
          go_wp2
          go_ret
          exact ⟨_, _, _, _, _, _, rfl, R8.out, C8.out, S8.out, by simp, E8.out, M8.out⟩
end Go.Proofs.YtgcoohlakcncbaaGreat
