/- Joined of several texts. -/
import Derived.Test.YtcikenffeekkeaaGreatDoorY09
import Derived.Test.YtcikenffeekkeaaGreatDoorY10
import Derived.StillTail
import Derived.RowKit
namespace Go.Proofs.YtcikenffeekkeaaGreatDoor
/- Plain law of Hilbert proofs: schemes and systems, lines of a proof, the lines of the proof of an implication. No program in sight. -/
open Go.RowKit
set_option linter.unusedVariables false
set_option linter.unusedSimpArgs false
def pV : Fm := .var 0
def qV : Fm := .var 1
def rV : Fm := .var 2
def im (a b : Fm) : Fm := .bin .imp a b
def ng (a : Fm) : Fm := .bin .imp a .fls
def bx1 (a : Fm) : Fm := .un .box a
def di1 (a : Fm) : Fm := .un .dia a
/-- the schemes -/
def schF : Nat → Fm
  | 0 => im pV (im qV pV)
  | 1 => im (im pV (im qV rV)) (im (im pV qV) (im pV rV))
  | 2 => im (.bin .and pV qV) pV
  | 3 => im (.bin .and pV qV) qV
  | 4 => im pV (im qV (.bin .and pV qV))
  | 5 => im pV (.bin .or pV qV)
  | 6 => im qV (.bin .or pV qV)
  | 7 => im (im pV rV) (im (im qV rV) (im (.bin .or pV qV) rV))
  | 8 => im .fls pV
  | 9 => im (ng (ng pV)) pV
  | 10 => im (bx1 (im pV qV)) (im (bx1 pV) (bx1 qV))
  | 11 => im (di1 pV) (ng (bx1 (ng pV)))
  | 12 => im (ng (bx1 (ng pV))) (di1 pV)
  | 13 => im (bx1 pV) pV
  | 14 => im (bx1 pV) (bx1 (bx1 pV))
  | 15 => im (di1 pV) (bx1 (di1 pV))
  | 16 => im pV (bx1 (di1 pV))
  | 17 => im (bx1 pV) (di1 pV)
  | _ => im (bx1 (im (bx1 pV) pV)) (bx1 pV)
/-- a line as it is given -/
structure Ln where
  r : Int
  f : Int
  s : Int
  x : List Nd
/-- the bytes of the names of systems -/
def nmInt : List UInt8 := [73, 110, 116]
def nmCL : List UInt8 := [67, 76]
/-- the schemes of a system, if it is one -/
def sysS (t : List UInt8) : Option (List Int) :=
  if t = [73, 110, 116] then some [0, 1, 2, 3, 4, 5, 6, 7, 8]
  else if t = [67, 76] then some [0, 1, 2, 3, 4, 5, 6, 7, 8, 9]
  else if t = [75] then some [0, 1, 2, 3, 4, 5, 6, 7, 8, 9, 10, 11, 12]
  else if t = [68] then some [0, 1, 2, 3, 4, 5, 6, 7, 8, 9, 10, 11, 12, 17]
  else if t = [84] then some [0, 1, 2, 3, 4, 5, 6, 7, 8, 9, 10, 11, 12, 13]
  else if t = [75, 52] then some [0, 1, 2, 3, 4, 5, 6, 7, 8, 9, 10, 11, 12, 14]
  else if t = [83, 52] then some [0, 1, 2, 3, 4, 5, 6, 7, 8, 9, 10, 11, 12, 13, 14]
  else if t = [83, 53] then some [0, 1, 2, 3, 4, 5, 6, 7, 8, 9, 10, 11, 12, 13, 15]
  else if t = [75, 66] then some [0, 1, 2, 3, 4, 5, 6, 7, 8, 9, 10, 11, 12, 16]
  else if t = [71, 76] then some [0, 1, 2, 3, 4, 5, 6, 7, 8, 9, 10, 11, 12, 18]
  else none
def modal (t : List UInt8) : Bool := !(decide (t = nmInt) || decide (t = nmCL))
theorem enc_cutH : ∀ (a b : Fm) (r r' : List Nd), enc a ++ r = enc b ++ r' → a = b ∧ r = r' := by
  intro a
  induction a with
  | var s =>
    intro b r r' h
    cases b with
    | var t =>
      simp only [enc, List.singleton_append, List.cons.injEq, Prod.mk.injEq] at h
      refine ⟨?_, h.2⟩
      have : s = t := by omega
      rw [this]
    | fls => simp [enc] at h
    | bin k c d => cases k <;> simp [enc, BK.i] at h
    | un k c => cases k <;> simp [enc, UK.i] at h
  | fls =>
    intro b r r' h
    cases b with
    | var t => simp [enc] at h
    | fls => simp only [enc, List.singleton_append, List.cons.injEq, true_and] at h; exact ⟨rfl, h⟩
    | bin k c d => cases k <;> simp [enc, BK.i] at h
    | un k c => cases k <;> simp [enc, UK.i] at h
  | bin k a1 a2 ih1 ih2 =>
    intro b r r' h
    cases b with
    | var t => cases k <;> simp [enc, BK.i] at h
    | fls => cases k <;> simp [enc, BK.i] at h
    | bin k' c d =>
      simp only [enc, List.cons_append, List.append_assoc, List.cons.injEq, Prod.mk.injEq] at h
      obtain ⟨⟨hk, -⟩, h⟩ := h
      have hkk : k = k' := by cases k <;> cases k' <;> first | rfl | (simp [BK.i] at hk)
      obtain ⟨e1, h2⟩ := ih1 _ _ _ h
      obtain ⟨e2, h3⟩ := ih2 _ _ _ h2
      exact ⟨by rw [hkk, e1, e2], h3⟩
    | un k' c => cases k <;> cases k' <;> simp [enc, BK.i, UK.i] at h
  | un k a1 ih =>
    intro b r r' h
    cases b with
    | var t => cases k <;> simp [enc, UK.i] at h
    | fls => cases k <;> simp [enc, UK.i] at h
    | bin k' c d => cases k <;> cases k' <;> simp [enc, BK.i, UK.i] at h
    | un k' c =>
      simp only [enc, List.cons_append, List.cons.injEq, Prod.mk.injEq] at h
      obtain ⟨⟨hk, -⟩, h⟩ := h
      have hkk : k = k' := by cases k <;> cases k' <;> first | rfl | (simp [UK.i] at hk)
      obtain ⟨e1, h2⟩ := ih _ _ _ h
      exact ⟨by rw [hkk, e1], h2⟩
theorem enc_eqH {a b : Fm} (h : enc a = enc b) : a = b := (enc_cutH a b [] [] (by rw [h])).1
/-- is a formula an instance of a scheme? -/
noncomputable def instX (k : Int) (xs : List Nd) : Bool := @decide (∃ g : Fm, enc g = xs ∧ inst (schF k.toNat) g = true) (Classical.propDecidable _)
theorem instX_enc (k : Int) (g : Fm) : instX k (enc g) = inst (schF k.toNat) g := by
  rw [Bool.eq_iff_iff]
  unfold instX
  rw [@decide_eq_true_iff _ (Classical.propDecidable _)]
  constructor
  · rintro ⟨h, e, hi⟩
    rw [enc_eqH e] at hi
    exact hi
  · exact fun h => ⟨g, rfl, h⟩
/-- does a line depend on a hypothesis, if one knows it of those before it? -/
def flg (em : List Bool) (l : Ln) : Bool :=
  if l.r = 2 then true else if l.r = 3 then em.getD l.f.toNat false || em.getD l.s.toNat false else if l.r = 4 then em.getD l.f.toNat false else false
def flgs (ls : List Ln) : List Bool := ls.foldl (fun em l => em ++ [flg em l]) []
theorem flgs_snoc (ls : List Ln) (l : Ln) : flgs (ls ++ [l]) = flgs ls ++ [flg (flgs ls) l] := by
  unfold flgs
  rw [List.foldl_append]
  rfl
theorem flgs_len (ls : List Ln) : (flgs ls).length = ls.length := by
  have h : ∀ (ls : List Ln) (em : List Bool), (ls.foldl (fun em l => em ++ [flg em l]) em).length = em.length + ls.length := by
    intro ls
    induction ls with
    | nil => intro em; rfl
    | cons l ls ih => intro em; rw [List.foldl_cons, ih, List.length_append]; simp only [List.length_cons, List.length_nil]; omega
  have := h ls []
  simpa [flgs] using this
theorem flgs_succ (ls : List Ln) (k : Nat) (h : k < ls.length) : flgs (ls.take (k + 1)) = flgs (ls.take k) ++ [flg (flgs (ls.take k)) ls[k]] := by
  rw [List.take_succ_eq_append_getElem h, flgs_snoc]
/-- is a line as in a proof, if those before it are? -/
noncomputable def fine (t : List UInt8) (hy : List (List Nd)) (ls : List Ln) (k : Nat) (l : Ln) : Bool :=
  isF l.x && (
    if l.r = 1 then decide (l.s = 0) && ((sysS t).getD []).contains l.f && instX l.f l.x
    else if l.r = 2 then decide (l.s = 0) && inR l.f 0 ((hy.length : Int) - 1) && decide (hy.getD l.f.toNat [] = l.x)
    else if l.r = 3 then inR l.f 0 ((k : Int) - 1) && inR l.s 0 ((k : Int) - 1) && decide ((ls.getD l.f.toNat ⟨0, 0, 0, []⟩).x = (4, 0) :: ((ls.getD l.s.toNat ⟨0, 0, 0, []⟩).x ++ l.x))
    else if l.r = 4 then modal t && decide (l.s = 0) && inR l.f 0 ((k : Int) - 1) && decide (l.x = (5, 0) :: (ls.getD l.f.toNat ⟨0, 0, 0, []⟩).x) && !((flgs (ls.take k)).getD l.f.toNat false)
    else false)
/-- the first lines are as in a proof -/
noncomputable def okTo (t : List UInt8) (hy : List (List Nd)) (ls : List Ln) (k : Nat) : Prop := ∀ i (h : i < ls.length), i < k → fine t hy ls i (ls[i]'h) = true
/- Plain law of Hilbert proofs: the lines of the proof of an implication. No program in sight. -/
open Go.RowKit
set_option linter.unusedVariables false
set_option linter.unusedSimpArgs false
/-- a line with its formula -/
abbrev LF := Int × Int × Int × Fm
/-- the lines so far, where each line stands by itself, and where its implication -/
structure Dst where
  out : List LF
  own : List Int
  lif : List Int
/-- the two lines behind a line that stays as it is -/
def wkn (a c : Fm) (n self : Int) : List LF := [(1, 0, 0, im c (im a c)), (3, n, self, im a c)]
/-- the five lines of the hypothesis itself -/
def idn (a : Fm) (n : Int) : List LF :=
  [(1, 0, 0, im a (im (im a a) a)), (1, 1, 0, im (im a (im (im a a) a)) (im (im a (im a a)) (im a a))), (3, n + 1, n, im (im a (im a a)) (im a a)), (1, 0, 0, im a (im a a)), (3, n + 2, n + 3, im a a)]
/-- the three lines of a detachment -/
def dtc (a d c : Fm) (n i j : Int) : List LF :=
  [(1, 1, 0, im (im a (im d c)) (im (im a d) (im a c))), (3, n, i, im (im a d) (im a c)), (3, n + 1, j, im a c)]
/-- the first premise, and the second, numbered anew -/
def mvf (own : List Int) (l : Ln) : Int := if l.r = 3 ∨ l.r = 4 then own.getD l.f.toNat 0 else l.f
def mvs (own : List Int) (l : Ln) : Int := if l.r = 3 then own.getD l.s.toNat 0 else l.s
/-- what a line adds -/
def dstep (a : Fm) (last : Int) (em : Bool) (l : Ln) (c d : Fm) (st : Dst) : Dst :=
  let n : Int := st.out.length
  if em = false then ⟨st.out ++ ((l.r, mvf st.own l, mvs st.own l, c) :: wkn a c (n + 1) n), st.own ++ [n], st.lif ++ [n + 2]⟩
  else if l.r = 2 then
    if l.f = last then ⟨st.out ++ idn a n, st.own ++ [0], st.lif ++ [n + 4]⟩
    else ⟨st.out ++ ((2, l.f, 0, c) :: wkn a c (n + 1) n), st.own ++ [0], st.lif ++ [n + 2]⟩
  else ⟨st.out ++ dtc a d c n (st.lif.getD l.f.toNat 0) (st.lif.getD l.s.toNat 0), st.own ++ [0], st.lif ++ [n + 2]⟩
/-- behind the first k lines -/
def dall (a : Fm) (last : Int) (em : Nat → Bool) (ls : List Ln) (F : Nat → Fm) : Nat → Dst
  | 0 => ⟨[], [], []⟩
  | k + 1 => let l := ls.getD k ⟨0, 0, 0, []⟩; dstep a last (em k) l (F k) (F l.s.toNat) (dall a last em ls F k)
theorem dall_len (a : Fm) (last : Int) (em : Nat → Bool) (ls : List Ln) (F : Nat → Fm) : ∀ k, (dall a last em ls F k).own.length = k ∧ (dall a last em ls F k).lif.length = k ∧ (dall a last em ls F k).out.length ≤ 5 * k
  | 0 => ⟨rfl, rfl, Nat.le_refl _⟩
  | k + 1 => by
    obtain ⟨h1, h2, h3⟩ := dall_len a last em ls F k
    unfold dall
    generalize dall a last em ls F k = st at *
    unfold dstep
    dsimp only
    split
    · refine ⟨by simp [h1], by simp [h2], by simp [wkn]; omega⟩
    · split
      · split
        · refine ⟨by simp [h1], by simp [h2], by simp [idn]; omega⟩
        · refine ⟨by simp [h1], by simp [h2], by simp [wkn]; omega⟩
      · refine ⟨by simp [h1], by simp [h2], by simp [dtc]; omega⟩
/-- the lines of the proof -/
def dis (a : Fm) (last : Int) (em : Nat → Bool) (ls : List Ln) (F : Nat → Fm) : List LF := (dall a last em ls F ls.length).out
/-- is something of it too long? -/
def tooL (o : List LF) : Bool := decide (200 < o.length) || o.any fun l => decide (40 < (enc l.2.2.2).length)
/-- the code of all -/
noncomputable def dcode (t : List UInt8) (hy : List (List Nd)) (ls : List Ln) : Int :=
  if sysS t = none then 2 else if hy.all isF = false then 1 else if hy.length = 0 then 4 else if ls.length = 0 ∨ 200 < ls.length then 3
  else if (List.range ls.length).all (fun k => fine t hy ls k (ls.getD k ⟨0, 0, 0, []⟩)) = false then 5 else 0
/- Over any program: a region whose orders are left open, walked in one order: operations that yield the same value in all worlds that meet a condition are taken where they stand, the others in their forced order. -/
open Go.RowKit
section
variable {P : Program} {ops : Array Oper} {md : Region.Mode} {I : World → Prop} {q : List Nat}
/-- the post that no way out meets -/
def Qf : Exit → Act → World → Prop := fun _ _ _ => False
/-- operation i is run, and does not panic -/
def opI (P : Program) (ops : Array Oper) (i : Nat) (K : Act → World → Prop) (a : Act) (w : World) : Prop :=
  match ops[i]? with
  | none => K a w
  | some o => if Region.wanted o (yielded ops a.tmps) then o.wp P a w K Qf else K (a.put o.dst undef) w
/-- what an operation yields, given to K, the world left as it was -/
def stillV (P : Program) (o : Oper) (a : Act) (w : World) (K : Value → Prop) : Prop :=
  match (execOp a.eval o).run P w with
  | .ok (.value v) w' => w' = w ∧ K v
  | .ok .skip w' => w' = w ∧ K undef
  | .ok (.enter f args) w' => w' = w ∧ ∃ v, Calls P f args w (fun e w'' => e = .returned v ∧ w'' = w) ∧ K v
  | _ => False
def quietV (P : Program) (ops : Array Oper) (o : Oper) (a : Act) (w : World) (K : Value → Prop) : Prop :=
  if Region.wanted o (yielded ops a.tmps) then stillV P o a w K else K undef
/-- in all worlds that meet I the operation yields v -/
def YI (P : Program) (ops : Array Oper) (I : World → Prop) (o : Oper) (v : Value) (a : Act) : Prop := ∀ w, I w → YieldsAt P ops w o v a
theorem YI.of_quiet {o : Oper} {v : Value} {a : Act} (h : ∀ w, I w → ∀ K : Value → Prop, K v → quietV P ops o a w K) : YI P ops I o v a := by
  intro w hI
  have := h w hI (fun u => u = v) rfl
  unfold quietV at this
  by_cases hw : Region.wanted o (yielded ops a.tmps) = true
  · rw [if_pos hw] at this
    unfold stillV at this
    generalize hr : (execOp a.eval o).run P w = r at this
    cases r with
    | ok n w' =>
      cases n <;> simp only at this
      case value u => obtain ⟨rfl, rfl⟩ := this; exact .inl ⟨hw, .inl hr⟩
      case skip => obtain ⟨rfl, h2⟩ := this; exact .inl ⟨hw, .inr (.inl ⟨hr, h2.symm⟩)⟩
      case enter f args => obtain ⟨rfl, u, hc, rfl⟩ := this; exact .inl ⟨hw, .inr (.inr ⟨f, args, hr, hc⟩)⟩
    | halt x w' => simp only at this
  · rw [if_neg hw] at this
    exact .inr ⟨by simpa using hw, this.symm⟩
theorem opI_mono {i : Nat} {a : Act} {w : World} {K K' : Act → World → Prop} (h : ∀ a w, K a w → K' a w) (hh : opI P ops i K a w) : opI P ops i K' a w := by
  unfold opI at *
  split
  · exact h _ _ (by simpa [*] using hh)
  · rename_i o ho
    simp only [ho] at hh
    split
    · rename_i hw; simp only [hw, if_true] at hh; exact Oper.wp_mono h hh
    · rename_i hw; simp only [hw] at hh; exact h _ _ hh
theorem YI.opI {i : Nat} {o : Oper} {v : Value} {a : Act} (hi : ops[i]? = some o) (hy : YI P ops I o v a) {K : Act → World → Prop} {w : World} (hw : I w) (h : K (a.put o.dst v) w) : opI P ops i K a w := by
  unfold Go.Proofs.YtcikenffeekkeaaGreatDoor.opI
  simp only [hi]
  rcases hy w hw with ⟨hw, hv | ⟨hv, rfl⟩ | ⟨f, args, hv, hc⟩⟩ | ⟨hw, rfl⟩
  · simp only [hw, if_true, Oper.wp, hv, Oper.upon]; exact h
  · simp only [hw, if_true, Oper.wp, hv, Oper.upon]; exact h
  · simp only [hw, if_true, Oper.wp, hv, Oper.upon]; exact hc.mono fun e w'' ⟨he, hw⟩ => by subst he; subst hw; exact h
  · simp only [hw, Bool.false_eq_true, if_false]; exact h
theorem opI_put {j : Nat} {oi oj : Oper} {v : Value} (hj : ops[j]? = some oj) (hap : oi.apart ops oj = true)
    (hsi : ∀ cs b, oi.op ≠ .select cs b) (hsj : ∀ cs b, oj.op ≠ .select cs b) {K : Act → World → Prop} {a : Act} {w : World}
    (hy : YI P ops I oi v a) (h : opI P ops j K (a.put oi.dst v) w) :
    opI P ops j (fun a' w' => YI P ops I oi v a' ∧ K (a'.put oi.dst v) w') a w := by
  obtain ⟨h1, h2, h3⟩ := Oper.apart_spec hap
  have keep : ∀ (a : Act), YI P ops I oi v a → ∀ u, YI P ops I oi v (a.put oj.dst u) := fun a hy u w hw =>
    (hy w hw).of_same (execOp_put oi hsi a oj.dst u h3) (wanted_put oi a oj.dst u h3)
  have keepD : ∀ d, YI P ops I oi v { a with defers := d :: a.defers } := fun d w hw => (hy w hw).of_same rfl rfl
  unfold opI at *
  simp only [hj] at *
  rw [wanted_put oj a oi.dst v h1] at h
  split
  · rename_i hw
    simp only [hw, if_true] at h
    unfold Oper.wp at *
    rw [execOp_put oj hsj a oi.dst v h1] at h
    generalize (execOp a.eval oj).run P w = r at *
    cases r with
    | ok n w' =>
      cases n <;> simp only [Oper.upon] at h ⊢
      case value u => exact ⟨keep a hy u, by rw [← Act.put_comm a v u h2]; exact h⟩
      case skip => exact ⟨keep a hy _, by rw [← Act.put_comm a v undef h2]; exact h⟩
      case defer d =>
        refine ⟨keep _ (keepD d) _, ?_⟩
        rw [← Act.put_comm _ v undef h2, ← Act.put_defers]
        exact h
      case enter f args =>
        refine Calls.mono h fun e w'' he => ?_
        cases e with
        | returned u => exact ⟨keep a hy u, by rw [← Act.put_comm a v u h2]; exact he⟩
        | panicked c => exact he
        | outgrown => exact he
      case row row args => exact Rows.mono h fun u w'' he => ⟨keep a hy u, by rw [← Act.put_comm a v u h2]; exact he⟩
    | halt x w' =>
      cases x <;> simp only [Oper.upon] at h ⊢
      case panic u => exact h
  · rename_i hw
    simp only [hw] at h
    exact ⟨keep a hy _, by rw [← Act.put_comm a v undef h2]; exact h⟩
theorem opI_wpOp {i : Nat} {K K' : Act → World → Prop} {Q : Exit → Act → World → Prop} {a : Act} {w : World} (hk : ∀ a w, K a w → K' a w) (h : opI P ops i K a w) : wpOp P ops Q i K' a w := by
  unfold opI at h
  unfold wpOp
  split
  · rename_i ho; simp only [ho] at h; exact hk _ _ h
  · rename_i o ho
    simp only [ho] at h
    split
    · rename_i hw
      simp only [hw, if_true] at h
      refine .inl ?_
      unfold Oper.wp at *
      generalize (execOp a.eval o).run P w = r at *
      cases r with
      | ok n w' =>
        cases n <;> simp only [Oper.upon] at h ⊢
        case value u => exact hk _ _ h
        case skip => exact hk _ _ h
        case defer d => exact hk _ _ h
        case enter f args =>
          refine Calls.mono h fun e w'' he => ?_
          cases e with
          | returned u => exact hk _ _ he
          | panicked c => exact he.elim
          | outgrown => obtain ⟨a, w, ha⟩ := he; exact ha.elim
        case row row args => exact Rows.mono h fun u w'' he => hk _ _ he
      | halt x w' =>
        cases x <;> simp only [Oper.upon] at h ⊢
        case panic u => exact h.elim
    · rename_i hw
      simp only [hw] at h
      exact hk _ _ h
/-- all orders of the next f operations, I kept, then L -/
def wpAnyI (P : Program) (md : Region.Mode) (ops : Array Oper) (I : World → Prop) (n : Nat) (L : Array Bool → Act → World → Prop) : Nat → Array Bool → Act → World → Prop
  | 0, listed, a, w => I w ∧ L listed a w
  | f + 1, listed, a, w => I w ∧ Region.ready md ops listed ≠ [] ∧ ∀ i ∈ Region.ready md ops listed, i < n ∧ opI P ops i (wpAnyI P md ops I n L f (listed.setIfInBounds i true)) a w
theorem wpAnyI.inv {n f : Nat} {L : Array Bool → Act → World → Prop} {listed : Array Bool} {a : Act} {w : World} (h : wpAnyI P md ops I n L f listed a w) : I w := by
  cases f <;> exact h.1
theorem wpAny_of_I {n g : Nat} {L : Array Bool → Act → World → Prop} {Q : Exit → Act → World → Prop} (hL : ∀ listed a w, L listed a w → wpAny P md ops Q g listed a w) :
    ∀ (f : Nat) (listed : Array Bool) (a : Act) (w : World), wpAnyI P md ops I n L f listed a w → wpAny P md ops Q (f + g) listed a w
  | 0, listed, a, w, h => by rw [Nat.zero_add]; exact hL _ _ _ h.2
  | f + 1, listed, a, w, h => by
    rw [show f + 1 + g = (f + g) + 1 by omega]
    exact ⟨fun h0 => absurd h0 h.2.1, fun i hi => opI_wpOp (fun a' w' h' => wpAny_of_I hL f _ a' w' h') (h.2.2 i hi).2⟩
/-- behind the head comes one forced operation after another, or nothing -/
def tailB (md : Region.Mode) (ops : Array Oper) (n : Nat) : Bool := decide (n = ops.size) || (decide (n < ops.size) && Region.sinkB md ops n && Region.chainB md ops n)
theorem tailB_waits {n i t : Nat} {listed : Array Bool} (hb : tailB md ops n = true) (inv : HeadInv md ops n listed) (hi : i < n) (hun : listed.getD i true = false) (ht : n ≤ t) : t ∉ Region.ready md ops listed := by
  unfold tailB at hb
  simp only [Bool.or_eq_true, Bool.and_eq_true, decide_eq_true_eq] at hb
  rcases hb with hb | ⟨⟨h1, h2⟩, h3⟩
  · intro hr
    obtain ⟨_, o, ho, _⟩ := mem_ready.1 hr
    have := (Array.getElem?_eq_some_iff.1 ho).1
    omega
  · exact tail_waits h2 h3 h1 inv _ i rfl hi hun t ht
theorem wpAnyI_first {n i : Nat} {oi : Oper} {v : Value} {L : Array Bool → Act → World → Prop} (hi : ops[i]? = some oi) (hsel : ∀ (j : Nat) (o : Oper) cs b, ops[j]? = some o → o.op ≠ .select cs b)
    (hb : tailB md ops n = true) (hin : i < n) (hdone : ∀ listed a w, L listed a w → ∀ j ∈ Region.ready md ops listed, n ≤ j) :
    ∀ (f : Nat) (listed : Array Bool) (a : Act) (w : World), HeadInv md ops n listed →
      (∀ j oj, ops[j]? = some oj → j ≠ i → listed.getD j true = false → (∀ e ∈ oj.after, Region.binds md e = true → e.on ≠ i) → oi.apart ops oj = true) →
      i ∈ Region.ready md ops listed → YI P ops I oi v a → I w →
      wpAnyI P md ops I n L f (listed.setIfInBounds i true) (a.put oi.dst v) w → wpAnyI P md ops I n L (f + 1) listed a w := by
  intro f
  induction f with
  | zero =>
    intro listed a w inv _ hr hy hI H
    have hun := (mem_ready.1 hr).1
    refine ⟨hI, fun h => (by rw [h] at hr; cases hr), fun j hj => ?_⟩
    have hjn : j < n := by
      rcases Nat.lt_or_ge j n with h | h
      · exact h
      · exact absurd hj (tailB_waits hb inv hin hun h)
    refine ⟨hjn, ?_⟩
    by_cases hji : j = i
    · subst hji; exact hy.opI hi hI H
    · have := hdone _ _ _ H.2 j (ready_mono hj hji)
      omega
  | succ f ih =>
    intro listed a w inv hfree hr hy hI H
    have hun := (mem_ready.1 hr).1
    refine ⟨hI, fun h => (by rw [h] at hr; cases hr), fun j hj => ?_⟩
    have hjn : j < n := by
      rcases Nat.lt_or_ge j n with h | h
      · exact h
      · exact absurd hj (tailB_waits hb inv hin hun h)
    refine ⟨hjn, ?_⟩
    by_cases hji : j = i
    · subst hji; exact hy.opI hi hI H
    · have h1 := (H.2.2 j (ready_mono hj hji)).2
      obtain ⟨hjun, oj, hoj, hall⟩ := mem_ready.1 hj
      have hnot : ∀ e ∈ oj.after, Region.binds md e = true → e.on ≠ i := fun e he hb heq => by
        have h1 := hall e he hb
        rw [heq, getD_both hun] at h1
        cases h1
      have h2 := opI_put hoj (hfree j oj hoj hji hjun hnot) (fun cs b => hsel i oi cs b hi) (fun cs b => hsel j oj cs b hoj) hy h1
      have hfree' : ∀ k ok, ops[k]? = some ok → k ≠ i → (listed.setIfInBounds j true).getD k true = false →
          (∀ e ∈ ok.after, Region.binds md e = true → e.on ≠ i) → oi.apart ops ok = true := fun k ok hk hki hun hno => by
        refine hfree k ok hk hki ?_ hno
        by_cases hjk : j = k
        · subst hjk; exact hjun
        · rw [getD_set_ne true hjk] at hun; exact hun
      refine opI_mono (fun a' w' h3 => ih (listed.setIfInBounds j true) a' w' (inv.set hj hjn) hfree' (ready_mono hr (Ne.symm hji)) h3.1 h3.2.inv ?_) h2
      rw [Array.setIfInBounds_comm _ _ hji]
      exact h3.2
/-- the order σ is one of the region's; the operations of q may be taken where they stand, each other one is forced -/
def schedFrom (md : Region.Mode) (ops : Array Oper) (n : Nat) (q : List Nat) : List Nat → Array Bool → Bool
  | [], listed => Region.seqB md ops (ops.size - n) n listed
  | i :: σ, listed => decide (i < n) && (if q.contains i then (Region.ready md ops listed).contains i && Region.free md ops listed i else decide (Region.ready md ops listed = [i])) && schedFrom md ops n q σ (listed.setIfInBounds i true)
def schedB (md : Region.Mode) (ops : Array Oper) (n : Nat) (q σ : List Nat) : Bool :=
  Region.noSelect ops && tailB md ops n && decide (σ.length = n) && schedFrom md ops n q σ (Array.replicate ops.size false)
/-- the walk in the order σ -/
def wpSched (P : Program) (ops : Array Oper) (I : World → Prop) (q : List Nat) (L : Act → World → Prop) : List Nat → Act → World → Prop
  | [], a, w => L a w
  | i :: σ, a, w =>
    match ops[i]? with
    | none => False
    | some o =>
      if q.contains i then ∃ v, YI P ops I o v a ∧ wpSched P ops I q L σ (a.put o.dst v) w
      else if Region.wanted o (yielded ops a.tmps) then o.wp P a w (fun a' w' => I w' ∧ wpSched P ops I q L σ a' w') Qf else wpSched P ops I q L σ (a.put o.dst undef) w
theorem wpSched_nil {L : Act → World → Prop} {a : Act} {w : World} (h : L a w) : wpSched P ops I q L [] a w := h
theorem wpSched_q {L : Act → World → Prop} {i : Nat} {σ : List Nat} {o : Oper} {v : Value} {a : Act} {w : World} (hi : ops[i]? = some o) (hq : q.contains i = true)
    (h : ∀ w', I w' → ∀ K : Value → Prop, K v → quietV P ops o a w' K) (hn : wpSched P ops I q L σ (a.put o.dst v) w) : wpSched P ops I q L (i :: σ) a w := by
  unfold wpSched
  simp only [hi, hq, if_true]
  exact ⟨v, YI.of_quiet h, hn⟩
theorem wpSched_r {L : Act → World → Prop} {i : Nat} {σ : List Nat} {o : Oper} {a : Act} {w : World} (hi : ops[i]? = some o) (hq : q.contains i = false)
    (h : ∀ K : Act → World → Prop, (∀ a' w', I w' → wpSched P ops I q L σ a' w' → K a' w') → I w → if Region.wanted o (yielded ops a.tmps) then o.wp P a w K Qf else K (a.put o.dst undef) w) (hI : I w) : wpSched P ops I q L (i :: σ) a w := by
  unfold wpSched
  simp only [hi, hq, Bool.false_eq_true, if_false]
  have h := h (fun a' w' => I w' ∧ wpSched P ops I q L σ a' w') (fun _ _ h1 h2 => ⟨h1, h2⟩) hI
  split at h
  · rename_i hw; rw [if_pos hw]; exact h
  · rename_i hw; rw [if_neg hw]; exact h.2
theorem seqB_from {md : Region.Mode} {ops : Array Oper} {g k : Nat} {listed : Array Bool} (h : Region.seqB md ops g k listed = true) : ∀ j ∈ Region.ready md ops listed, k ≤ j := seqB_ready h
theorem wpAnyI_sched {n : Nat} {Lq : Act → World → Prop} (hsel : Region.noSelect ops = true) (hb : tailB md ops n = true) :
    ∀ (σ : List Nat) (listed : Array Bool) (a : Act) (w : World), HeadInv md ops n listed → schedFrom md ops n q σ listed = true → I w → wpSched P ops I q Lq σ a w →
      wpAnyI P md ops I n (fun listed' a' w' => Region.seqB md ops (ops.size - n) n listed' = true ∧ Lq a' w') σ.length listed a w
  | [], listed, a, w, _, hB, hI, h => ⟨hI, hB, h⟩
  | i :: σ, listed, a, w, inv, hB, hI, h => by
    simp only [schedFrom, Bool.and_eq_true, decide_eq_true_eq] at hB
    obtain ⟨⟨hin, hB1⟩, hB2⟩ := hB
    unfold wpSched at h
    cases ho : ops[i]? with
    | none => rw [ho] at h; exact h.elim
    | some o =>
      simp only [ho] at h
      cases hq : q.contains i with
      | true =>
        simp only [hq, if_true, Bool.and_eq_true] at h hB1
        obtain ⟨v, hy, hn⟩ := h
        obtain ⟨hr, hf⟩ := hB1
        have hr' : i ∈ Region.ready md ops listed := by simpa using hr
        exact wpAnyI_first ho (Region.noSelect_spec hsel) hb hin (fun _ _ _ hL => seqB_ready hL.1) σ.length listed a w inv (Region.free_spec ho hf) hr' hy hI
          (wpAnyI_sched hsel hb σ _ _ _ (inv.set hr' hin) hB2 hI hn)
      | false =>
        simp only [hq, Bool.false_eq_true, if_false, decide_eq_true_eq] at h hB1
        have hr' : i ∈ Region.ready md ops listed := by rw [hB1]; exact List.mem_singleton.2 rfl
        refine ⟨hI, (by rw [hB1]; simp), fun j hj => ?_⟩
        rw [hB1] at hj
        have hji : j = i := by simpa using hj
        subst hji
        refine ⟨hin, ?_⟩
        unfold opI
        simp only [ho]
        split at h
        · rename_i hw
          rw [if_pos hw]
          exact Oper.wp_mono (fun a' w' h' => wpAnyI_sched hsel hb σ _ a' w' (inv.set hr' hin) hB2 h'.1 h'.2) h
        · rename_i hw
          rw [if_neg hw]
          exact wpAnyI_sched hsel hb σ _ _ w (inv.set hr' hin) hB2 hI h
/-- a region that draws, walked in the order σ, then the forced operations from n on -/
theorem wp_region_sched {id : Nat} {Q : Exit → Act → World → Prop} {a : Act} {w : World} {l : List Oper} (I : World → Prop) (n : Nat) (q σ : List Nat) (hm : P.follows .mixedOrders = true) (hB : schedB .any l.toArray n q σ = true)
    (hI : I w.drew) (h : wpSched P l.toArray I q (fun a' w' => wpList P l.toArray Q (l.drop n) a' w') σ a w.drew) : (Code.region id l.toArray true).wp P Q a w := by
  simp only [schedB, Bool.and_eq_true, decide_eq_true_eq] at hB
  obtain ⟨⟨⟨hsel, hb⟩, hlen⟩, hs⟩ := hB
  have hn : n ≤ l.length := by
    unfold tailB at hb
    simp only [Bool.or_eq_true, Bool.and_eq_true, decide_eq_true_eq, List.size_toArray] at hb
    rcases hb with hb | ⟨⟨hb, _⟩, _⟩ <;> omega
  have inv0 : HeadInv .any l.toArray n (Array.replicate l.toArray.size false) :=
    ⟨by simp, fun j oj _ hl => (by rw [getD_replicate_false] at hl; cases hl), fun t _ ht => getD_in (by simpa using ht) (getD_replicate_false _ _)⟩
  have H := wpAnyI_sched (md := .any) (P := P) (Lq := fun a' w' => wpList P l.toArray Q (l.drop n) a' w') hsel hb σ _ a w.drew inv0 hs hI h
  refine wp_region_any hm ?_
  have hdl : (l.drop n).length = l.toArray.size - n := by simp
  have := wpAny_of_I (Q := Q) (g := l.toArray.size - n) (fun listed a' w' hL => by
    have := wpAny_of_seq (md := .any) (Q' := Q) (l.drop n) n listed a' w' (fun j => by simp [List.getElem?_drop]) (by rw [hdl]; exact hL.1) hL.2
    rwa [hdl] at this) _ _ _ _ H
  rw [hlen, show n + (l.toArray.size - n) = l.toArray.size by simp; omega] at this
  exact this
end
end Go.Proofs.YtcikenffeekkeaaGreatDoor
