/- Joined of several texts. -/
import Derived.Test.YtcikenffeekkeaaGreatDoorY36
import Derived.Test.YtcikenffeekkeaaGreatDoorY09
import Derived.Test.YtcikenffeekkeaaGreatDoorY13
import Derived.Test.YtcikenffeekkeaaGreatDoorY11
namespace Go.Proofs.YtcikenffeekkeaaGreatDoor
/- Contracts of the reference: lines are put behind lines. -/
open Go.RowKit
set_option linter.unusedVariables false
set_option linter.unusedSimpArgs false
/-- a formula of its own that is not in the lines v -/
def Wt (B : Nat) (w : World) (v u : Value) (xs : List Nd) : Prop := Ow cN 75 B w u xs ∧ ∀ k, u.ownBlock = some k → v.ownBlock ≠ some k
/-- the lines, all in blocks of the call's own of colour 1, as all blocks to come -/
abbrev Gr (B : Nat) (c : Nat → Nat) (w : World) (v : Value) (ls : List Ln) : Prop := ObC B c 1 w v ls ∧ B ≤ w.heap.size ∧ ∀ k, w.heap.size ≤ k → c k = 1
/-- from the lines v to the lines v' -/
def GrS (w w' : World) (v v' : Value) : Prop := KpS (fun k => v.ownBlock = some k) w w' ∧ (v'.ownBlock = v.ownBlock ∨ ∃ k, v'.ownBlock = some k ∧ w.heap.size ≤ k)
theorem Gr.own {B : Nat} {c : Nat → Nat} {w : World} {v : Value} {ls : List Ln} (h : Gr B c w v ls) : ∀ k, v.ownBlock = some k → B ≤ k ∧ k < w.heap.size :=
  fun k e => (h.1.own k e).2
theorem Gr.below {B : Nat} {c : Nat → Nat} {w w' : World} {v : Value} {ls : List Ln} (h : Gr B c w v ls) (hb : Below w.heap.size w w') : Gr B c w' v ls :=
  ⟨h.1.kps (S := fun _ => False) (KpS.of hb) (fun k e => e.elim), Nat.le_trans h.2.1 hb.size, fun k hk => h.2.2 k (Nat.le_trans hb.size hk)⟩
/-- one line more, whose formula has been made since -/
theorem Gr.push {B : Nat} {c : Nat → Nat} {w0 w : World} {v : Value} {ls : List Ln} (h : Gr B c w0 v ls) (hb : Below w0.heap.size w0 w) {A : Option Addr} {n cc : Nat} {xs : List Nd} (hu : Ow cN 75 w0.heap.size w (.slice A n cc) xs) (y : L3) :
    ∃ hs : List (L3 × Hd), Ow cLn 46 B w v hs ∧ hs.length = ls.length ∧ ∀ (o : Obj) (w2 : World) (v2 : Value), (w.alloc o).grownBy w2 v.ownBlock → Ow cLn 46 B w2 v2 (hs ++ [(y, ⟨A, n, cc⟩)]) → (v2.ownBlock = v.ownBlock ∨ v2.ownBlock = some (w.heap.size + 1)) →
      Gr B c w2 v2 (ls ++ [mkLn y xs]) := by
  have h1 : ObC B (fz c w0.heap.size) 1 w v ls := (h.1.recl fun k hk e => by rw [fz_lt hk, e]).kps (S := fun _ => False) (KpS.of hb) fun k e => e.elim
  obtain ⟨hs, h2, h3, h4⟩ := h1.push (hu.mono h.2.1) (fun k e e2 => by rw [fz_ge (hu.block k e).1] at e2; omega) y
  refine ⟨hs, h2, h3, fun o w2 v2 hg ho hat => ?_⟩
  have hk : KpS (fun k => v.ownBlock = some k) w w2 := ((KpS.of (below_alloc' w o)).trans (KpS.refl _ _)).grown hg (fun k e => e)
  have hsz : w.heap.size < w2.heap.size := by have := hg.size; have := (below_alloc' w o).size; simp at *; omega
  have hz0 := hb.size
  refine ⟨h4 w2 v2 c hk ho ?_ (fun k hk2 e => ?_) (fun k e => h.2.2 k (hu.block k e).1) (fun k e => h.2.2 k (by omega)), by have := h.2.1; omega, fun k e => h.2.2 k (by omega)⟩
  · rcases hat with e | e
    · exact .inl e
    · exact .inr ⟨_, e, Nat.le_succ _⟩
  · by_cases e2 : k < w0.heap.size
    · rw [fz_lt e2] at e; exact e
    · exact h.2.2 k (by omega)
theorem Wt.below {B : Nat} {w w' : World} {v u : Value} {xs : List Nd} (h : Wt B w v u xs) (hb : Below w.heap.size w w') : Wt B w' v u xs := ⟨h.1.below hb, h.2⟩
theorem Wt.step {B : Nat} {w w' : World} {v v' u : Value} {xs : List Nd} (h : Wt B w v u xs) (hg : GrS w w' v v') : Wt B w' v' u xs := by
  refine ⟨h.1.kps hg.1 h.2, fun k e => ?_⟩
  rcases hg.2 with e2 | ⟨k', e2, hk⟩
  · rw [e2]; exact h.2 k e
  · rw [e2]; intro e3; injection e3 with e3; have := (h.1.block k e).2; omega
theorem Wt.mk' {B : Nat} {w w1 : World} {v u : Value} {xs : List Nd} {ls : List Ln} {c : Nat → Nat} (h : Gr B c w v ls) (ho : Ow cN 75 w.heap.size w1 u xs) : Wt B w1 v u xs :=
  ⟨ho.mono h.2.1, fun k e e2 => by have := (ho.block k e).1; have := (h.own k e2).2; omega⟩
theorem GrS.toB {B : Nat} {c : Nat → Nat} {w w' : World} {v v' : Value} {ls : List Ln} (hg : GrS w w' v v') (h : Gr B c w v ls) : Below B w w' :=
  hg.1.toBelow h.2.1 fun k hk e => by have := (h.own k e).1; omega
theorem GrS.trans {B : Nat} {c : Nat → Nat} {w w1 w2 : World} {v v1 v2 : Value} {ls : List Ln} (h : GrS w w1 v v1) (k : GrS w1 w2 v1 v2) (hv : Gr B c w v ls) : GrS w w2 v v2 := by
  have hz := h.1.size
  have hown : ∀ k, v.ownBlock = some k → k < w.heap.size := fun k e => (hv.own k e).2
  refine ⟨?_, ?_⟩
  · refine ⟨k.1.os.trans h.1.os, k.1.tape.trans h.1.tape, k.1.output.trans h.1.output, Nat.le_trans h.1.size k.1.size, fun j hj hn => (k.1.block j (by omega) ?_).trans (h.1.block j hj hn)⟩
    rcases h.2 with e | ⟨k', e, hk⟩
    · rw [e]; exact hn
    · rw [e]; intro e3; injection e3 with e3; omega
  · rcases k.2 with e | ⟨k', e, hk⟩
    · rcases h.2 with e2 | ⟨k2, e2, hk2⟩
      · exact .inl (e.trans e2)
      · exact .inr ⟨k2, e.trans e2, hk2⟩
    · exact .inr ⟨k', e, by omega⟩
theorem GrS.pre {w w1 w2 : World} {v v2 : Value} (hb : Below w.heap.size w w1) (k : GrS w1 w2 v v2) : GrS w w2 v v2 := by
  refine ⟨(KpS.of hb).trans k.1, ?_⟩
  rcases k.2 with e | ⟨k', e, hk⟩
  · exact .inl e
  · exact .inr ⟨k', e, by have := hb.size; omega⟩
theorem spec_l13Imply (v u : Value) (xs ys : List Nd) (w : World) (h : Sl cN w v xs) (h' : Sl cN w u ys) (hl : xs.length ≤ 1048576) (hl' : ys.length ≤ 1048576) :
    Calls Tryz.prog 37 #[v, u] w fun e w' => ∃ r, e = .returned r ∧ Ow cN 75 w.heap.size w' r ([(4, 0)] ++ xs ++ ys) ∧ Below w.heap.size w w' := by
  have H := Lib.hid (spec_l02Pair 4 v u xs ys w h h' hl hl')
  obtain ⟨A, c, rfl⟩ := h.opn
  obtain ⟨B, d, rfl⟩ := h'.opn
  clear h h'
  go_enter Tryz.func37, Tryz.ntmps37
  go_wp2_with fail
  refine H.out.mono ?_
  rintro e w1 ⟨r, rfl, ho, hb⟩
  have HO := Lib.hid ho
  have HB := Lib.hid hb
  clear ho hb
  go_wp2
  go_ret
  exact ⟨_, rfl, HO.out, HB.out⟩
set_option maxRecDepth 100000 in
theorem spec_l13Put {B : Nat} {c : Nat → Nat} {ls : List Ln} {vl : Value} {w : World} (h : Gr B c w vl ls) (r f s : Int) {vf : Value} {xs : List Nd} (hf : Sl cN w vf xs) (hlx : xs.length ≤ 1000) (hl : ls.length ≤ 2000) :
    Calls Tryz.prog 38 #[vl, .int .i64 r, .int .i64 f, .int .i64 s, vf] w fun e w' => ∃ vl', e = .returned (.tuple #[vl', .int .i64 ls.length]) ∧ Gr B c w' vl' (ls ++ [⟨r, f, s, xs⟩]) ∧ GrS w w' vl vl' := by
  have HO := Lib.hid (spec_l02Own vf xs w hf (by omega))
  obtain ⟨Al, cl, rfl⟩ := h.1.opn
  obtain ⟨Af, cf, rfl⟩ := hf.opn
  have HG := Lib.hid h
  clear h hf
  go_enter Tryz.func38, Tryz.ntmps38
  go_wp2_with fail
  refine HO.out.mono ?_
  rintro e w1 ⟨u, rfl, ho, hb⟩
  obtain ⟨Au, cu, rfl⟩ := ho.opn
  obtain ⟨hs, hoL, hlen, hK⟩ := Gr.push HG.out hb ho (r, f, s)
  have HLN := Lib.hid hlen
  have HOL := Lib.hid hoL
  have HK := Lib.hid hK
  have HB := Lib.hid hb
  have HZ := Lib.hid (Nat.le_trans HG.out.2.1 hb.size)
  clear ho hb hoL hlen hK HO
  go_wp2_with (at_builtin; refine stopHere ?_)
  refine goHere ?_
  refine ap_one (K := cLn) w1 ty_line rfl _ _ rfl (B := B) (v := .slice Al ls.length cl) (xs := hs) (by rw [← HLN.out]; rfl) HOL.out ((r, f, s), ⟨Au, xs.length, cu⟩) rfl rfl (by rw [HLN.out]; omega) HZ.out ?_
  intro v2 w2 ho2 hg2 hb2 hat2
  have HR : Hid (Gr B c w2 v2 (ls ++ [⟨r, f, s, xs⟩])) := Lib.hid (HK.out _ w2 v2 hg2 ho2 (by simpa using hat2))
  have hz2 : w1.heap.size ≤ w2.heap.size := by have := hg2.size; simp at this; omega
  have HS2 : Hid (GrS w w2 (.slice Al ls.length cl) v2) := Lib.hid (by
    refine ⟨(KpS.of HB.out).trans (KpS.grown (KpS.of (below_alloc' w1 _)) hg2 fun k e => e), ?_⟩
    rcases hat2 with e | e
    · exact .inl e
    · exact .inr ⟨_, e, by have := HB.out.size; omega⟩)
  have HZ2 := Lib.hid (Nat.le_trans HZ.out hz2)
  obtain ⟨A2, c2, e2⟩ := HR.out.1.opn
  rw [List.length_append] at e2
  subst e2
  clear ho2 hg2 hb2 hat2 hz2 HK HOL
  go_wp2
  refine bodyPost_ret (v := .tuple #[.slice A2 (ls.length + 1) c2, .int .i64 ls.length]) (by simp [results, Tryz.results38, go_sem]) rfl ⟨_, rfl, HR.out, HS2.out⟩
/- Plain law of Hilbert proofs: the lines of the proof of an implication, with their nodes. No program in sight. -/
open Go.RowKit
set_option linter.unusedVariables false
set_option linter.unusedSimpArgs false
/-- the lines of weaken behind n lines -/
def wkLs (a c : List Nd) (n : Nat) (self : Int) : List Ln := [⟨1, 0, 0, [(4, 0)] ++ c ++ ([(4, 0)] ++ a ++ c)⟩, ⟨3, ((n : Nat) : Int), self, [(4, 0)] ++ a ++ c⟩]
/-- what identity adds to n lines -/
def idLs (a : List Nd) (n : Nat) : List Ln :=
  let A := [((4 : Int), (0 : Int))] ++ a ++ a
  let G := [((4 : Int), (0 : Int))] ++ a ++ A
  let F := [((4 : Int), (0 : Int))] ++ a ++ ([((4 : Int), (0 : Int))] ++ A ++ a)
  [⟨1, 0, 0, F⟩, ⟨1, 1, 0, [((4 : Int), (0 : Int))] ++ F ++ ([((4 : Int), (0 : Int))] ++ G ++ A)⟩, ⟨3, ((n + 1 : Nat) : Int), ((n : Nat) : Int), [((4 : Int), (0 : Int))] ++ G ++ A⟩, ⟨1, 0, 0, G⟩, ⟨3, ((n + 2 : Nat) : Int), ((n + 3 : Nat) : Int), A⟩]
/-- what a detachment adds to n lines -/
def dtLs (a d c : List Nd) (n : Nat) (i j : Int) : List Ln :=
  let W := [((4 : Int), (0 : Int))] ++ a ++ ([((4 : Int), (0 : Int))] ++ d ++ c)
  let D := [((4 : Int), (0 : Int))] ++ a ++ d
  let C := [((4 : Int), (0 : Int))] ++ a ++ c
  [⟨1, 1, 0, [((4 : Int), (0 : Int))] ++ W ++ ([((4 : Int), (0 : Int))] ++ D ++ C)⟩, ⟨3, ((n : Nat) : Int), i, [((4 : Int), (0 : Int))] ++ D ++ C⟩, ⟨3, ((n + 1 : Nat) : Int), j, C⟩]
/-- the lines so far, where each line stands by itself, and where its implication -/
structure Pst where
  out : List Ln
  se : List Int
  im : List Int
/-- what a line adds -/
def pstep (a : List Nd) (last : Int) (dep : Bool) (d : List Nd) (l : Ln) (st : Pst) : Pst :=
  let n := st.out.length
  if dep = false then ⟨st.out ++ (⟨l.r, mvf st.se l, mvs st.se l, l.x⟩ :: wkLs a l.x (n + 1) n), st.se ++ [(n : Int)], st.im ++ [(n : Int) + 2]⟩
  else if l.r = 2 then
    if l.f = last then ⟨st.out ++ idLs a n, st.se ++ [-1], st.im ++ [(n : Int) + 4]⟩
    else ⟨st.out ++ (⟨2, l.f, 0, l.x⟩ :: wkLs a l.x (n + 1) n), st.se ++ [(n : Int)], st.im ++ [(n : Int) + 2]⟩
  else ⟨st.out ++ dtLs a d l.x n (st.im.getD l.f.toNat 0) (st.im.getD l.s.toNat 0), st.se ++ [-1], st.im ++ [(n : Int) + 2]⟩
def ln0 : Ln := ⟨0, 0, 0, []⟩
/-- behind the first k lines -/
def pall (a : List Nd) (last : Int) (P : List Ln) : Nat → Pst
  | 0 => ⟨[], [], []⟩
  | k + 1 => pstep a last ((flgs P).getD k false) (P.getD (P.getD k ln0).s.toNat ln0).x (P.getD k ln0) (pall a last P k)
theorem pall_len (a : List Nd) (last : Int) (P : List Ln) : ∀ k, (pall a last P k).se.length = k ∧ (pall a last P k).im.length = k ∧ (pall a last P k).out.length ≤ 5 * k
  | 0 => ⟨rfl, rfl, Nat.le_refl _⟩
  | k + 1 => by
    obtain ⟨h1, h2, h3⟩ := pall_len a last P k
    unfold pall
    generalize pall a last P k = st at *
    unfold pstep
    dsimp only
    split
    · refine ⟨by simp [h1], by simp [h2], by simp [wkLs]; omega⟩
    · split
      · split
        · refine ⟨by simp [h1], by simp [h2], by simp [idLs]; omega⟩
        · refine ⟨by simp [h1], by simp [h2], by simp [wkLs]; omega⟩
      · refine ⟨by simp [h1], by simp [h2], by simp [dtLs]; omega⟩
/-- the lines of the proof -/
def disL (a : List Nd) (last : Int) (P : List Ln) : List Ln := (pall a last P P.length).out
/-- is something of it too long? -/
def longL (o : List Ln) : Bool := decide (200 < o.length) || o.any fun l => decide (40 < l.x.length)
theorem flgs_app (A : List Ln) : ∀ B : List Ln, ∃ r, flgs (A ++ B) = flgs A ++ r := by
  intro B
  unfold flgs
  rw [List.foldl_append]
  generalize A.foldl (fun em l => em ++ [flg em l]) [] = em
  induction B generalizing em with
  | nil => exact ⟨[], by simp⟩
  | cons l B ih =>
    rw [List.foldl_cons]
    obtain ⟨r, hr⟩ := ih (em ++ [flg em l])
    exact ⟨[flg em l] ++ r, by rw [hr, List.append_assoc]⟩
theorem flgs_take (P : List Ln) (k : Nat) (hk : k ≤ P.length) : (flgs P).take k = flgs (P.take k) := by
  obtain ⟨r, hr⟩ := flgs_app (P.take k) (P.drop k)
  rw [List.take_append_drop] at hr
  have hl : (flgs (P.take k)).length = k := by rw [flgs_len, List.length_take]; omega
  rw [hr, List.take_append_of_le_length (by omega), List.take_of_length_le (by omega)]
theorem flgs_at (P : List Ln) (k : Nat) (hk : k < P.length) : (flgs P)[k]'(by rw [flgs_len]; exact hk) = flg (flgs (P.take k)) P[k] := by
  have h1 := flgs_take P (k + 1) (by omega)
  rw [flgs_succ P k hk] at h1
  have h2 : (flgs P)[k]? = ((flgs P).take (k + 1))[k]? := by rw [List.getElem?_take, if_pos (by omega)]
  have h3 : (flgs (P.take k)).length = k := by rw [flgs_len, List.length_take]; omega
  rw [h1, List.getElem?_append_right (by omega), h3, Nat.sub_self] at h2
  rw [List.getElem?_eq_getElem (by rw [flgs_len]; exact hk)] at h2
  simpa using h2
/-- a line that depends on a hypothesis is one, or comes by detachment -/
theorem fine_dep {t : List UInt8} {hy : List (List Nd)} {P : List Ln} {k : Nat} {l : Ln} (h : fine t hy P k l = true) (hd : flg (flgs (P.take k)) l = true) : l.r = 2 ∨ (l.r = 3 ∧ inR l.f 0 ((k : Int) - 1) = true ∧ inR l.s 0 ((k : Int) - 1) = true) := by
  unfold fine at h
  rw [Bool.and_eq_true] at h
  have h2 := h.2
  unfold flg at hd
  by_cases e2 : l.r = 2
  · exact .inl e2
  · rw [if_neg e2] at hd
    by_cases e3 : l.r = 3
    · rw [if_neg (by omega), if_neg e2, if_pos e3] at h2
      simp only [Bool.and_eq_true] at h2
      exact .inr ⟨e3, h2.1.1, h2.1.2⟩
    · rw [if_neg e3] at hd
      by_cases e4 : l.r = 4
      · rw [if_neg (by omega), if_neg e2, if_neg e3, if_pos e4] at h2
        rw [if_pos e4] at hd
        simp only [Bool.and_eq_true] at h2
        rw [hd] at h2
        simp at h2
      · rw [if_neg e4] at hd; cases hd
/- Contracts of the reference: the lines behind a line, the lines for the hypothesis itself. -/
open Go.RowKit
set_option linter.unusedVariables false
set_option linter.unusedSimpArgs false
set_option maxRecDepth 100000 in
theorem spec_l13Lift {B : Nat} {cq : Nat → Nat} {ls : List Ln} {vl : Value} {w0 w : World} (h : Gr B cq w vl ls) (hb : Below w0.heap.size w0 w) (hB : w0.heap.size ≤ B) (at_ : Int) {va vc : Value} {a c : List Nd} (ha : Sl cN w0 va a) (hc : Sl cN w0 vc c) (hla : a.length ≤ 40) (hlc : c.length ≤ 40) (hl : ls.length ≤ 1990) :
    Calls Tryz.prog 35 #[vl, .int .i64 at_, va, vc] w fun e w' => ∃ vl', e = .returned (.tuple #[vl', .int .i64 ((ls.length + 1 : Nat) : Int)]) ∧ Gr B cq w' vl' (ls ++ wkLs a c ls.length at_) ∧ GrS w w' vl vl' := by
  obtain ⟨Al, cl, rfl⟩ := h.1.opn
  obtain ⟨Aa, ca, rfl⟩ := ha.opn
  obtain ⟨Ac, cc, rfl⟩ := hc.opn
  have HI := Lib.hid (fun W (hW : Below w0.heap.size w0 W) => spec_l13Imply _ _ a c W (ha.below hW) (hc.below hW) (by omega) (by omega))
  have HC := Lib.hid hc
  have HG := Lib.hid h
  have HB := Lib.hid hb
  obtain ⟨AC, hAC⟩ : ∃ X, [((4 : Int), (0 : Int))] ++ a ++ c = X := ⟨_, rfl⟩
  obtain ⟨F, hF⟩ : ∃ X, [((4 : Int), (0 : Int))] ++ c ++ AC = X := ⟨_, rfl⟩
  have HLC : Hid (AC.length ≤ 81) := Lib.hid (by rw [← hAC]; simp; omega)
  have HLF : Hid (F.length ≤ 122) := Lib.hid (by have := HLC.out; rw [← hF]; simp; omega)
  rw [hAC] at HI
  have HAC := Lib.hid hAC
  have HF := Lib.hid hF
  have I0 := Lib.hid (HI.out w hb)
  clear h hb ha hc hAC hF
  go_enter Tryz.func35, Tryz.ntmps35
  go_wp2_with fail
  refine I0.out.mono ?_
  rintro e w1 ⟨u1, rfl, ho1, hb1⟩
  obtain ⟨A1, c1, rfl⟩ := ho1.opn
  have HB1 := Lib.hid (HB.out.trans (hb1.mono HB.out.size))
  have I1 := Lib.hid (spec_l13Imply _ _ c AC w1 (HC.out.below HB1.out) ho1.sl (by omega) (by have := HLC.out; omega))
  rw [HF.out] at I1
  have HBa := Lib.hid hb1
  clear ho1 hb1 I0
  go_wp2_with fail
  refine I1.out.mono ?_
  rintro e w2 ⟨u2, rfl, ho2, hb2⟩
  obtain ⟨A2, c2, rfl⟩ := ho2.opn
  have HBb := Lib.hid (HBa.out.trans (hb2.mono HBa.out.size))
  have HG2 := Lib.hid (HG.out.below HBb.out)
  have HB2 := Lib.hid (HB.out.trans (HBb.out.mono HB.out.size))
  have P2 := Lib.hid (spec_l13Put HG2.out 1 0 0 ho2.sl (by have := HLF.out; omega) (by omega))
  clear ho2 hb2 I1 HBa HB1
  go_wp2_with fail
  refine P2.out.mono ?_
  rintro e w3 ⟨vl3, rfl, hg3, hs3⟩
  obtain ⟨L1, hL1⟩ : ∃ L, ls ++ [(⟨1, 0, 0, F⟩ : Ln)] = L := ⟨_, rfl⟩
  have HL1 : Hid (L1.length = ls.length + 1) := Lib.hid (by rw [← hL1]; simp)
  rw [hL1] at hg3
  obtain ⟨Al3, cl3, rfl⟩ := hg3.1.opn
  have HL := Lib.hid hL1
  have HB3 := Lib.hid (HB2.out.trans ((hs3.toB HG2.out).mono hB))
  have HS3 := Lib.hid (hs3.pre HBb.out)
  have HG3 := Lib.hid hg3
  have I3 := Lib.hid (HI.out w3 HB3.out)
  clear hg3 hs3 hL1 P2 HG2 HB2 HBb
  go_wp2_with fail
  refine I3.out.mono ?_
  rintro e w4 ⟨u4, rfl, ho4, hb4⟩
  obtain ⟨A4, c4, rfl⟩ := ho4.opn
  have HG4 := Lib.hid (HG3.out.below hb4)
  have HB4 := Lib.hid hb4
  have P4 := Lib.hid (spec_l13Put HG4.out 3 ls.length at_ ho4.sl (by have := HLC.out; omega) (by have := HL1.out; omega))
  clear ho4 hb4 I3
  go_wp2_with fail
  refine P4.out.mono ?_
  rintro e w5 ⟨vl5, rfl, hg5, hs5⟩
  have HS5 := Lib.hid (HS3.out.trans (hs5.pre HB4.out) HG.out)
  have HQ : Hid (ls ++ wkLs a c ls.length at_ = L1 ++ [⟨3, ls.length, at_, AC⟩]) := Lib.hid (by unfold wkLs; rw [HAC.out, HF.out, ← HL.out, List.append_assoc]; rfl)
  rw [← HQ.out] at hg5
  have HG5 := Lib.hid hg5
  have HN : Hid ((L1.length : Int) = ((ls.length + 1 : Nat) : Int)) := Lib.hid (by rw [HL1.out])
  rw [HN.out]
  clear hg5 hs5 P4
  obtain ⟨q, hq⟩ : ∃ q : Int, ((ls.length + 1 : Nat) : Int) = q := ⟨_, rfl⟩
  have HQN := Lib.hid hq
  rw [hq]
  clear hq
  go_wp2
  refine bodyPost_ret (v := .tuple #[vl5, .int .i64 q]) (by simp [results, Tryz.results35, go_sem]) rfl ⟨_, by rw [HQN.out], HG5.out, HS5.out⟩
set_option maxRecDepth 100000 in
set_option maxHeartbeats 1000000 in
theorem spec_l13Self {B : Nat} {c : Nat → Nat} {ls : List Ln} {vl : Value} {w0 w : World} (h : Gr B c w vl ls) (hb : Below w0.heap.size w0 w) (hB : w0.heap.size ≤ B) {va : Value} {a : List Nd} (ha : Sl cN w0 va a) (hla : a.length ≤ 40) (hl : ls.length ≤ 1990) :
    Calls Tryz.prog 36 #[vl, va] w fun e w' => ∃ vl', e = .returned (.tuple #[vl', .int .i64 ((ls.length + 4 : Nat) : Int)]) ∧ Gr B c w' vl' (ls ++ idLs a ls.length) ∧ GrS w w' vl vl' := by
  obtain ⟨Al, cl, rfl⟩ := h.1.opn
  obtain ⟨Aa, ca, rfl⟩ := ha.opn
  have HA := Lib.hid ha
  have HG := Lib.hid h
  have HB := Lib.hid hb
  obtain ⟨AA, hAA⟩ : ∃ X, [((4 : Int), (0 : Int))] ++ a ++ a = X := ⟨_, rfl⟩
  obtain ⟨X1, hX1⟩ : ∃ X, [((4 : Int), (0 : Int))] ++ AA ++ a = X := ⟨_, rfl⟩
  obtain ⟨F, hF⟩ : ∃ X, [((4 : Int), (0 : Int))] ++ a ++ X1 = X := ⟨_, rfl⟩
  obtain ⟨G, hG⟩ : ∃ X, [((4 : Int), (0 : Int))] ++ a ++ AA = X := ⟨_, rfl⟩
  obtain ⟨GA, hGA⟩ : ∃ X, [((4 : Int), (0 : Int))] ++ G ++ AA = X := ⟨_, rfl⟩
  obtain ⟨FG, hFG⟩ : ∃ X, [((4 : Int), (0 : Int))] ++ F ++ GA = X := ⟨_, rfl⟩
  have HLA : Hid (AA.length ≤ 81) := Lib.hid (by rw [← hAA]; simp; omega)
  have HLX : Hid (X1.length ≤ 122) := Lib.hid (by have := HLA.out; rw [← hX1]; simp; omega)
  have HLF : Hid (F.length ≤ 163) := Lib.hid (by have := HLX.out; rw [← hF]; simp; omega)
  have HLG : Hid (G.length ≤ 122) := Lib.hid (by have := HLA.out; rw [← hG]; simp; omega)
  have HLGA : Hid (GA.length ≤ 204) := Lib.hid (by have := HLA.out; have := HLG.out; rw [← hGA]; simp; omega)
  have HLFG : Hid (FG.length ≤ 368) := Lib.hid (by have := HLF.out; have := HLGA.out; rw [← hFG]; simp; omega)
  have HAA := Lib.hid hAA
  have HX1 := Lib.hid hX1
  have HF := Lib.hid hF
  have HGG := Lib.hid hG
  have HGA := Lib.hid hGA
  have HFG := Lib.hid hFG
  have I0 := Lib.hid (spec_l13Imply _ _ a a w (ha.below hb) (ha.below hb) (by omega) (by omega))
  rw [hAA] at I0
  clear h hb ha hAA hX1 hF hG hGA hFG
  go_enter Tryz.func36, Tryz.ntmps36
  go_wp2_with fail
  refine I0.out.mono ?_
  rintro e w1 ⟨u1, rfl, ho1, hb1⟩
  obtain ⟨A1, c1, rfl⟩ := ho1.opn
  have WA1 := Lib.hid (Wt.mk' HG.out ho1)
  have HG1 := Lib.hid (HG.out.below hb1)
  have HB1 := Lib.hid (HB.out.trans (hb1.mono HB.out.size))
  have HBa := Lib.hid hb1
  have I1 := Lib.hid (spec_l13Imply _ _ AA a w1 ho1.sl (HA.out.below HB1.out) (by have := HLA.out; omega) (by omega))
  rw [HX1.out] at I1
  clear ho1 hb1 I0
  go_wp2_with fail
  refine I1.out.mono ?_
  rintro e w2 ⟨u2, rfl, ho2, hb2⟩
  obtain ⟨A2, c2, rfl⟩ := ho2.opn
  have HBb := Lib.hid hb2
  have HB2 := Lib.hid (HB1.out.trans (hb2.mono HB1.out.size))
  have I2 := Lib.hid (spec_l13Imply _ _ a X1 w2 (HA.out.below HB2.out) ho2.sl (by omega) (by have := HLX.out; omega))
  rw [HF.out] at I2
  clear ho2 hb2 I1
  go_wp2_with fail
  refine I2.out.mono ?_
  rintro e w3 ⟨u3, rfl, ho3, hb3⟩
  obtain ⟨A3, c3, rfl⟩ := ho3.opn
  have hb13 := HBb.out.trans (hb3.mono HBb.out.size)
  have HG3 := Lib.hid (HG1.out.below hb13)
  have WA3 := Lib.hid (WA1.out.below hb13)
  have WF3 := Lib.hid (Wt.mk' HG1.out (ho3.mono HBb.out.size))
  have HB3 := Lib.hid (HB1.out.trans (hb13.mono HB1.out.size))
  have HBc := Lib.hid (HBa.out.trans (hb13.mono HBa.out.size))
  have I3 := Lib.hid (spec_l13Imply _ _ a AA w3 (HA.out.below HB3.out) WA3.out.1.sl (by omega) (by have := HLA.out; omega))
  rw [HGG.out] at I3
  clear ho3 hb3 hb13 I2 HBb HB2 HG1 WA1 HBa HB1
  go_wp2_with fail
  refine I3.out.mono ?_
  rintro e w4 ⟨u4, rfl, ho4, hb4⟩
  obtain ⟨A4, c4, rfl⟩ := ho4.opn
  have WG4 := Lib.hid (Wt.mk' HG3.out ho4)
  have WA4 := Lib.hid (WA3.out.below hb4)
  have WF4 := Lib.hid (WF3.out.below hb4)
  have HG4 := Lib.hid (HG3.out.below hb4)
  have HB4 := Lib.hid (HB3.out.trans (hb4.mono HB3.out.size))
  have HBd := Lib.hid (HBc.out.trans (hb4.mono HBc.out.size))
  have P4 := Lib.hid (spec_l13Put HG4.out 1 0 0 WF4.out.1.sl (by have := HLF.out; omega) (by omega))
  clear ho4 hb4 I3 HG3 WA3 WF3 HB3 HBc
  go_wp2_with fail
  refine P4.out.mono ?_
  rintro e w5 ⟨v5, rfl, hg5, hs5⟩
  obtain ⟨L1, hL1⟩ : ∃ L, ls ++ [(⟨1, 0, 0, F⟩ : Ln)] = L := ⟨_, rfl⟩
  have HL1 : Hid (L1.length = ls.length + 1) := Lib.hid (by rw [← hL1]; simp)
  rw [hL1] at hg5
  obtain ⟨Al5, cl5, rfl⟩ := hg5.1.opn
  have E1 := Lib.hid hL1
  have WG5 := Lib.hid (WG4.out.step hs5)
  have WA5 := Lib.hid (WA4.out.step hs5)
  have WF5 := Lib.hid (WF4.out.step hs5)
  have HG5 := Lib.hid hg5
  have HS5 := Lib.hid (hs5.pre HBd.out)
  have I5 := Lib.hid (spec_l13Imply _ _ G AA w5 WG5.out.1.sl WA5.out.1.sl (by have := HLG.out; omega) (by have := HLA.out; omega))
  rw [HGA.out] at I5
  clear hg5 hs5 hL1 P4 WG4 WA4 WF4 HG4 HB4 HBd
  go_wp2_with fail
  refine I5.out.mono ?_
  rintro e w6 ⟨u6, rfl, ho6, hb6⟩
  obtain ⟨A6, c6, rfl⟩ := ho6.opn
  have WG6 := Lib.hid (WG5.out.below hb6)
  have WA6 := Lib.hid (WA5.out.below hb6)
  have WF6 := Lib.hid (WF5.out.below hb6)
  have HG6 := Lib.hid (HG5.out.below hb6)
  have HB6 := Lib.hid hb6
  have I6 := Lib.hid (spec_l13Imply _ _ F GA w6 WF6.out.1.sl ho6.sl (by have := HLF.out; omega) (by have := HLGA.out; omega))
  rw [HFG.out] at I6
  clear ho6 hb6 I5 WG5 WA5 WF5
  go_wp2_with fail
  refine I6.out.mono ?_
  rintro e w7 ⟨u7, rfl, ho7, hb7⟩
  obtain ⟨A7, c7, rfl⟩ := ho7.opn
  have WG7 := Lib.hid (WG6.out.below hb7)
  have WA7 := Lib.hid (WA6.out.below hb7)
  have HG7 := Lib.hid (HG6.out.below hb7)
  have HB7 := Lib.hid (HB6.out.trans (hb7.mono HB6.out.size))
  have P7 := Lib.hid (spec_l13Put HG7.out 1 1 0 ho7.sl (by have := HLFG.out; omega) (by have := HL1.out; omega))
  clear ho7 hb7 I6 WG6 WA6 WF6 HG6 HB6
  go_wp2_with fail
  refine P7.out.mono ?_
  rintro e w8 ⟨v8, rfl, hg8, hs8⟩
  obtain ⟨L2, hL2⟩ : ∃ L, L1 ++ [(⟨1, 1, 0, FG⟩ : Ln)] = L := ⟨_, rfl⟩
  have HL2 : Hid (L2.length = ls.length + 2) := Lib.hid (by rw [← hL2, List.length_append, HL1.out]; rfl)
  rw [hL2] at hg8
  obtain ⟨Al8, cl8, rfl⟩ := hg8.1.opn
  have E2 := Lib.hid hL2
  have WG8 := Lib.hid (WG7.out.step hs8)
  have WA8 := Lib.hid (WA7.out.step hs8)
  have HG8 := Lib.hid hg8
  have HS8 := Lib.hid (HS5.out.trans (hs8.pre HB7.out) HG.out)
  have I8 := Lib.hid (spec_l13Imply _ _ G AA w8 WG8.out.1.sl WA8.out.1.sl (by have := HLG.out; omega) (by have := HLA.out; omega))
  rw [HGA.out] at I8
  clear hg8 hs8 hL2 P7 WG7 WA7 HG7 HB7 HG5 HS5
  go_wp2_with fail
  refine I8.out.mono ?_
  rintro e w9 ⟨u9, rfl, ho9, hb9⟩
  obtain ⟨A9, c9, rfl⟩ := ho9.opn
  have WG9 := Lib.hid (WG8.out.below hb9)
  have WA9 := Lib.hid (WA8.out.below hb9)
  have HG9 := Lib.hid (HG8.out.below hb9)
  have HB9 := Lib.hid hb9
  have P9 := Lib.hid (spec_l13Put HG9.out 3 L1.length ls.length ho9.sl (by have := HLGA.out; omega) (by have := HL2.out; omega))
  clear ho9 hb9 I8 WG8 WA8
  go_wp2_with fail
  refine P9.out.mono ?_
  rintro e w10 ⟨v10, rfl, hg10, hs10⟩
  obtain ⟨L3, hL3⟩ : ∃ L, L2 ++ [(⟨3, L1.length, ls.length, GA⟩ : Ln)] = L := ⟨_, rfl⟩
  have HL3 : Hid (L3.length = ls.length + 3) := Lib.hid (by rw [← hL3, List.length_append, HL2.out]; rfl)
  rw [hL3] at hg10
  obtain ⟨Al10, cl10, rfl⟩ := hg10.1.opn
  have E3 := Lib.hid hL3
  have WG10 := Lib.hid (WG9.out.step hs10)
  have WA10 := Lib.hid (WA9.out.step hs10)
  have HG10 := Lib.hid hg10
  have HS10 := Lib.hid (HS8.out.trans (hs10.pre HB9.out) HG.out)
  have P10 := Lib.hid (spec_l13Put hg10 1 0 0 WG10.out.1.sl (by have := HLG.out; omega) (by have := HL3.out; omega))
  clear hg10 hs10 hL3 P9 WG9 WA9 HG9 HB9 HG8 HS8
  go_wp2_with fail
  refine P10.out.mono ?_
  rintro e w11 ⟨v11, rfl, hg11, hs11⟩
  obtain ⟨L4, hL4⟩ : ∃ L, L3 ++ [(⟨1, 0, 0, G⟩ : Ln)] = L := ⟨_, rfl⟩
  have HL4 : Hid (L4.length = ls.length + 4) := Lib.hid (by rw [← hL4, List.length_append, HL3.out]; rfl)
  rw [hL4] at hg11
  obtain ⟨Al11, cl11, rfl⟩ := hg11.1.opn
  have E4 := Lib.hid hL4
  have WA11 := Lib.hid (WA10.out.step hs11)
  have HS11 := Lib.hid (HS10.out.trans hs11 HG.out)
  have P11 := Lib.hid (spec_l13Put hg11 3 L2.length L3.length WA11.out.1.sl (by have := HLA.out; omega) (by have := HL4.out; omega))
  clear hg11 hs11 hL4 P10 WG10 WA10 HG10 HS10
  go_wp2_with fail
  refine P11.out.mono ?_
  rintro e w12 ⟨v12, rfl, hg12, hs12⟩
  have HS12 := Lib.hid (HS11.out.trans hs12 HG.out)
  have HQ : Hid (ls ++ idLs a ls.length = L4 ++ [⟨3, L2.length, L3.length, AA⟩]) := Lib.hid (by
    unfold idLs
    dsimp only
    rw [HAA.out, HX1.out, HGG.out, HF.out, HGA.out, HFG.out, HL2.out, HL3.out, ← E4.out, ← E3.out, HL1.out, ← E2.out, ← E1.out]
    simp [List.append_assoc])
  rw [← HQ.out] at hg12
  have HG12 := Lib.hid hg12
  have HN : Hid ((L4.length : Int) = ((ls.length + 4 : Nat) : Int)) := Lib.hid (by rw [HL4.out])
  obtain ⟨q, hq⟩ : ∃ q : Int, (L4.length : Int) = q := ⟨_, rfl⟩
  have HQN : Hid (q = ((ls.length + 4 : Nat) : Int)) := Lib.hid (hq.symm.trans HN.out)
  rw [hq]
  clear hg12 hs12 P11 hq
  go_wp2
  refine bodyPost_ret (v := .tuple #[v12, .int .i64 q]) (by simp [results, Tryz.results36, go_sem]) rfl ⟨_, by rw [HQN.out], HG12.out, HS12.out⟩
end Go.Proofs.YtcikenffeekkeaaGreatDoor
