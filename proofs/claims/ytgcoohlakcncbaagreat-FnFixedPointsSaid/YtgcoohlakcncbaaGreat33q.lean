/- Contracts of chapter 33, of the program: the parts of a formula as slices of the first world, mapOuter with whatever closure. -/
import Derived.Test.YtgcoohlakcncbaaGreatM3
namespace Go.Proofs.YtgcoohlakcncbaaGreat
open Go.RowKit
set_option linter.unusedVariables false
set_option linter.unusedSimpArgs false
theorem part_g (v : Value) (xs : List Nd) (i j : Nat) (w : World) (h : Sl cN w v xs) (hl : xs.length ≤ 1048576) (hi : i < j) (hj : j ≤ xs.length) (hp : pe (xs.drop i) 1 i = j) :
    Calls Tryz.prog 208 #[v, .int .i64 i] w fun e w' => ∃ u, e = .returned u ∧ (∀ W0, Sl cN W0 v xs → Sl cN W0 u ((xs.drop i).take (j - i))) ∧ w = w' := by
  obtain ⟨A, c, rfl⟩ := h.opn
  obtain ⟨-, hc, hm⟩ := h.cap
  have HP := Lib.hid hp; clear hp
  have HC := Lib.hid (fun W0 (h0 : Sl cN W0 (.slice A xs.length c) xs) => h0.cut (i := i) (j := j) (c' := j - i) (by omega) hj (Nat.le_refl _) (by omega))
  go_enter Tryz.func208, Tryz.ntmps208
  go_wp2_with fail
  refine (impl_partEnd _ xs i _ h (by omega) (by omega)).mono ?_
  rintro e w1 ⟨rfl, rfl⟩
  rw [HP.out]
  go_wp2_with fail
  refine (impl_partEnd _ xs i _ h (by omega) (by omega)).mono ?_
  rintro e w1 ⟨rfl, rfl⟩
  rw [HP.out]
  have hji : ¬ j = i := by omega
  go_wp2
  go_ret
  exact ⟨_, rfl, HC.out, rfl⟩
theorem first_g (v : Value) (n : Nd) (f : Fm) (rest : List Nd) (w : World) (h : Sl cN w v (n :: (enc f ++ rest))) (hl : (n :: (enc f ++ rest)).length ≤ 1048576) :
    Calls Tryz.prog 189 #[v] w fun e w' => ∃ u, e = .returned u ∧ (∀ W0, Sl cN W0 v (n :: (enc f ++ rest)) → Sl cN W0 u (enc f)) ∧ w = w' := by
  have hp := part_g v _ 1 (1 + (enc f).length) w h hl (by have := enc_pos f; omega) (by simp; omega) (pe_first n f rest)
  rw [Nat.add_sub_cancel_left, take_enc] at hp
  have HP := Lib.hid hp; clear hp
  go_enter Tryz.func189, Tryz.ntmps189
  go_wp2_with fail
  refine HP.out.mono ?_
  rintro e w1 ⟨u, rfl, hs, rfl⟩
  have HS := Lib.hid hs; clear hs
  go_wp2
  go_ret
  exact ⟨_, rfl, HS.out, rfl⟩
theorem second_g (v : Value) (n : Nd) (f g : Fm) (rest : List Nd) (w : World) (h : Sl cN w v (n :: (enc f ++ (enc g ++ rest)))) (hl : (n :: (enc f ++ (enc g ++ rest))).length ≤ 1048576) :
    Calls Tryz.prog 190 #[v] w fun e w' => ∃ u, e = .returned u ∧ (∀ W0, Sl cN W0 v (n :: (enc f ++ (enc g ++ rest))) → Sl cN W0 u (enc g)) ∧ w = w' := by
  have hp := part_g v _ (1 + (enc f).length) (1 + (enc f).length + (enc g).length) w h hl (by have := enc_pos g; omega) (by simp; omega) (pe_second n f g rest)
  rw [Nat.add_sub_cancel_left, Nat.add_comm 1 (enc f).length, take_enc2] at hp
  have HP := Lib.hid hp; clear hp
  have h1 := impl_partEnd v _ 1 w h (by omega) (by omega)
  rw [show ((1 : Nat) : Int) = 1 from rfl, pe_first n f (enc g ++ rest), Nat.add_comm 1 (enc f).length] at h1
  have H1 := Lib.hid h1; clear h1
  go_enter Tryz.func190, Tryz.ntmps190
  go_wp2_with fail
  refine H1.out.mono ?_
  rintro e w1 ⟨rfl, rfl⟩
  go_wp2_with fail
  refine HP.out.mono ?_
  rintro e w1 ⟨u, rfl, hs, rfl⟩
  have HS := Lib.hid hs; clear hs
  go_wp2
  go_ret
  exact ⟨_, rfl, HS.out, rfl⟩
theorem parts_g (f : Fm) (v : Value) (w0 w : World) (h0 : Sl cN w0 v (enc f)) (hb0 : Below w0.heap.size w0 w) (hl : (enc f).length ≤ 1048576) :
    Calls Tryz.prog 146 #[v] w fun e w' => ∃ u hs, e = .returned u ∧ Ow cH 26 w.heap.size w' u hs ∧ Hs w0 hs (kids f) ∧ Below w.heap.size w w' := by
  have h := h0.below hb0
  cases f with
  | var s =>
    clear h0
    obtain ⟨A, c, rfl⟩ := h.opn
    simp only [enc, List.length_cons, List.length_nil] at h ⊢
    obtain ⟨b, o, rfl, hb, hc0, hc1⟩ := h.atN0
    go_enter Tryz.func146, Tryz.ntmps146
    go_wp2_with fail
    refine (impl_partsOf _ _).mono ?_
    rintro e w1 ⟨rfl, rfl⟩
    rw [show parts 0 = 0 from rfl]
    go_wp2
    go_ret
    exact ⟨_, [], rfl, Ow.nil _ _, Hs.nil, Below.refl _ _⟩
  | fls =>
    clear h0
    obtain ⟨A, c, rfl⟩ := h.opn
    simp only [enc, List.length_cons, List.length_nil] at h ⊢
    obtain ⟨b, o, rfl, hb, hc0, hc1⟩ := h.atN0
    go_enter Tryz.func146, Tryz.ntmps146
    go_wp2_with fail
    refine (impl_partsOf _ _).mono ?_
    rintro e w1 ⟨rfl, rfl⟩
    rw [show parts 1 = 0 from rfl]
    go_wp2
    go_ret
    exact ⟨_, [], rfl, Ow.nil _ _, Hs.nil, Below.refl _ _⟩
  | un k a =>
    rw [enc_un] at h hl h0
    have hf := first_g _ _ a [] w h hl
    have H0 := Lib.hid h0; clear h0
    obtain ⟨A, c, rfl⟩ := h.opn
    obtain ⟨b, o, rfl, hb, hc0, hc1⟩ := h.atN0
    have HF := Lib.hid hf; clear hf
    have hL0 : 0 < ((k.i, (0 : Int)) :: (enc a ++ [])).length := by simp
    clear h
    generalize ((k.i, (0 : Int)) :: (enc a ++ [])).length = L at *
    go_enter Tryz.func146, Tryz.ntmps146
    go_wp2_with fail
    refine (impl_partsOf _ _).mono ?_
    rintro e w1 ⟨rfl, rfl⟩
    rw [UK.parts k]
    go_wp2_with fail
    refine HF.out.mono ?_
    rintro e w1 ⟨u, rfl, hs, rfl⟩
    have h2 := hs _ H0.out
    obtain ⟨A2, c2, rfl⟩ := h2.opn
    have HS : Hid (Hs w0 [⟨A2, (enc a).length, c2⟩] (kids (.un k a))) := Lib.hid (Hs.nil.snoc (x := ⟨A2, (enc a).length, c2⟩) (g := a) h2)
    clear hs h2
    go_wp2
    go_ret
    exact ⟨_, _, rfl, Ow.lit _ rfl rfl (Nat.le_refl _), HS.out, (Below.refl _ _).alloc (Nat.le_refl _) _⟩
  | bin k a b =>
    rw [enc_bin] at h hl h0
    have hf := first_g _ _ a _ w h hl
    have hg := second_g _ _ a b [] w h hl
    have H0 := Lib.hid h0; clear h0
    obtain ⟨A, c, rfl⟩ := h.opn
    obtain ⟨bb, o, rfl, hb, hc0, hc1⟩ := h.atN0
    have HF := Lib.hid hf; clear hf
    have HG := Lib.hid hg; clear hg
    have hL0 : 0 < ((k.i, (0 : Int)) :: (enc a ++ (enc b ++ []))).length := by simp
    clear h
    generalize ((k.i, (0 : Int)) :: (enc a ++ (enc b ++ []))).length = L at *
    go_enter Tryz.func146, Tryz.ntmps146
    go_wp2_with fail
    refine (impl_partsOf _ _).mono ?_
    rintro e w1 ⟨rfl, rfl⟩
    rw [BK.parts k]
    go_wp2_with fail
    refine HF.out.mono ?_
    rintro e w1 ⟨u, rfl, hs, rfl⟩
    go_wp2_with fail
    refine HG.out.mono ?_
    rintro e w1 ⟨u2, rfl, hs2, rfl⟩
    have h2 := hs _ H0.out
    have h3 := hs2 _ H0.out
    obtain ⟨A2, c2, rfl⟩ := h2.opn
    obtain ⟨A3, c3, rfl⟩ := h3.opn
    have HS : Hid (Hs w0 [⟨A2, (enc a).length, c2⟩, ⟨A3, (enc b).length, c3⟩] (kids (.bin k a b))) := Lib.hid ((Hs.nil.snoc (x := ⟨A2, (enc a).length, c2⟩) (g := a) h2).snoc (x := ⟨A3, (enc b).length, c3⟩) (g := b) h3)
    clear hs hs2 h2 h3
    go_wp2
    go_ret
    exact ⟨_, _, rfl, Ow.lit _ rfl rfl (Nat.le_refl _), HS.out, (Below.refl _ _).alloc (Nat.le_refl _) _⟩
theorem Sl.atHd {w : World} {A : Option Addr} {n c : Nat} {hs : List Hd} (h : Sl cH w (.slice A n c) hs) {k : Nat} (hk : k < hs.length) :
    ∃ b o, A = some ⟨b, o, none⟩ ∧ b < w.heap.size ∧ w.cell? ⟨b, o + k, none⟩ = some (.slice hs[k].a hs[k].n hs[k].c) := by
  obtain ⟨b, o, hA, hb, hc⟩ := h.cell hk
  have := hc 0 hs[k].val rfl
  exact ⟨b, o, hA, hb, by simpa [cH, Hd.val] using this⟩
section
variable {σ : Type} (s : Nat) (st : σ → Fm → σ) (im : σ → Fm → Fm)
/-- mapOuter: the state behind it, and the formula -/
def mpO : Fm → σ → σ × Fm
  | .un k a, q => if a.occ s then (st q (.un k a), im q (.un k a)) else (q, .un k a)
  | .bin k a b, q => ((mpO b (mpO a q).1).1, .bin k (mpO a q).2 (mpO b (mpO a q).1).2)
  | f, q => (q, f)
def mpK (L : List Fm) (q : σ) : Nat → σ × List Nd
  | 0 => (q, [])
  | j + 1 => ((mpO s st im (L.getD j .fls) (mpK L q j).1).1, (mpK L q j).2 ++ enc (mpO s st im (L.getD j .fls) (mpK L q j).1).2)
theorem mpK_succ (L : List Fm) (q : σ) (j : Nat) : mpK s st im L q (j + 1) = ((mpO s st im (L.getD j .fls) (mpK s st im L q j).1).1, (mpK s st im L q j).2 ++ enc (mpO s st im (L.getD j .fls) (mpK s st im L q j).1).2) := rfl
theorem mpK_kids (f : Fm) (q : σ) (x : Nd) (t : List Nd) (he : enc f = x :: t) (hm : ∀ k a, f ≠ .un k a) :
    (mpO s st im f q).1 = (mpK s st im (kids f) q (kids f).length).1 ∧ enc (mpO s st im f q).2 = x :: (mpK s st im (kids f) q (kids f).length).2 := by
  cases f with
  | var t => simp only [enc] at he; exact ⟨rfl, by simp only [mpO, enc, kids, mpK, List.length_nil]; rw [← (List.cons.inj he).1]⟩
  | fls => simp only [enc] at he; exact ⟨rfl, by simp only [mpO, enc, kids, mpK, List.length_nil]; rw [← (List.cons.inj he).1]⟩
  | bin k a b =>
    simp only [enc] at he
    refine ⟨rfl, ?_⟩
    simp only [mpO, enc, kids, mpK, List.length_cons, List.length_nil, List.nil_append]
    rw [← (List.cons.inj he).1]; rfl
  | un k a => exact absurd rfl (hm k a)
end
/-- a closure for mapOuter: it keeps a condition on states, blocks that it may change, and worlds -/
structure MapF (σ : Type) (s : Nat) (R : List Fm) (st : σ → Fm → σ) (im : σ → Fm → Fm) (M : Nat) (k : FuncId) (cap : Array Value) (w0 : World) (B : Nat) (I : σ → (Nat → Prop) → World → Prop) : Prop where
  ent : ∀ (args : Array Value) (w : World), (callFunc k args).run Tryz.prog w = .ok (.enter k args) w
  pos : 1 ≤ M
  base : w0.heap.size ≤ B
  lt : ∀ q T W, I q T W → ∀ b, T b → B ≤ b ∧ b < W.heap.size
  keep : ∀ q T W W1, I q T W → Below B W W1 → (∀ b, T b → W1.heap[b]? = W.heap[b]?) → I q T W1
  run : ∀ q T W (g : Fm) (v : Value), I q T W → Below w0.heap.size w0 W → B ≤ W.heap.size → g ∈ R → g.ok = true → (enc g).length ≤ 100 → Sl cN w0 v (enc g) →
    Calls Tryz.prog k (#[v] ++ cap) W fun e W' => ∃ u T', e = .returned u ∧ Sl cN W' u (enc (im q g)) ∧ (enc (im q g)).length ≤ M ∧ I (st q g) T' W' ∧ Fr B T W W' ∧ Tgr T W T'
def MapOK (σ : Type) (s : Nat) (R : List Fm) (st : σ → Fm → σ) (im : σ → Fm → Fm) (M : Nat) (k : FuncId) (cap : Array Value) (w0 : World) (B : Nat) (I : σ → (Nat → Prop) → World → Prop) (f : Fm) : Prop :=
  f.ok = true → (∀ g ∈ occs s f, g ∈ R) → (enc f).length ≤ 100 → ∀ q T W (v : Value), I q T W → Below w0.heap.size w0 W → B ≤ W.heap.size → Sl cN w0 v (enc f) →
    Calls Tryz.prog 156 #[v, .int .i64 s, .func (.func k) #[] cap] W fun e W' => ∃ u T', e = .returned u ∧ Sl cN W' u (enc (mpO s st im f q).2) ∧ (enc (mpO s st im f q).2).length ≤ (enc f).length * M ∧ I (mpO s st im f q).1 T' W' ∧ Fr B T W W' ∧ Tgr T W T'
set_option maxRecDepth 100000 in
theorem impl_mapOuter_un {σ : Type} {s : Nat} {R : List Fm} {st : σ → Fm → σ} {im : σ → Fm → Fm} {M : Nat} {kf : FuncId} {cap : Array Value} {w0 : World} {B : Nat} {I : σ → (Nat → Prop) → World → Prop} (F : MapF σ s R st im M kf cap w0 B I) (hs5 : s ≤ 5)
    (k : UK) (a : Fm) : MapOK σ s R st im M kf cap w0 B I (.un k a) := by
  intro hok hR hl q T W v hI hb0 hB h0
  have hnd := enc_nodes (.un k a) hok
  have hq0 : a.occ s = true → Fm.un k a ∈ R := fun ho => hR _ (by rw [occs, if_pos ho]; exact List.mem_singleton.2 rfl)
  have hoc : (vmask (enc (.un k a))).testBit s = a.occ s := by
    rw [← occ_bit (enc (.un k a)) s hnd, occ_enc]; rfl
  have hvm := vmask_lt (enc (.un k a)) hnd
  have h := h0.below hb0
  have HM := Lib.hid (impl_variableMask v (enc (.un k a)) W h (by omega) hnd)
  have HH := Lib.hid (fun W1 => impl_has (vmask (enc (.un k a))) s W1 (by omega) (by omega))
  rw [hoc] at HH
  have HKP := Lib.hid (fun W1 (hb : Below W.heap.size W W1) => F.keep q T W W1 hI (hb.mono hB) fun b hb' => hb.block b (F.lt q T W hI b hb').2)
  have HC := Lib.hid (fun W1 (hb : Below W.heap.size W W1) => impl_clone v (enc (.un k a)) W1 (h.below hb) (by omega))
  have HF := Lib.hid (fun W1 (hb : Below W.heap.size W W1) (ho : a.occ s = true) => F.run q T W1 (.un k a) v (HKP.out W1 hb) (hb0.trans (hb.mono hb0.size)) (Nat.le_trans hB hb.size) (hq0 ho) hok hl h0)
  have HE := F.ent
  have HMP : Hid (mpO s st im (.un k a) q = if a.occ s then (st q (.un k a), im q (.un k a)) else (q, .un k a)) := Lib.hid rfl
  have HL : Hid (1 ≤ (enc (.un k a)).length ∧ 1 ≤ M) := Lib.hid ⟨enc_pos _, F.pos⟩
  have hhd : ∃ t, enc (.un k a) = (k.i, (0 : Int)) :: t := ⟨_, rfl⟩
  clear hnd hoc hq0 hR h0 hI hb0 hB F
  obtain ⟨t, ht⟩ := hhd
  obtain ⟨A, c, rfl⟩ := h.opn
  have hL0 : 0 < (enc (.un k a)).length := enc_pos _
  rw [ht] at h
  obtain ⟨b, o, rfl, hb, hc0, hc1⟩ := h.atN0
  clear h ht
  generalize hLL : (enc (.un k a)).length = L at *
  have HLL := Lib.hid hLL
  clear hLL
  go_enter Tryz.func156, Tryz.ntmps156
  go_wp2_with fail
  refine (impl_isModal_yes _ _).mono ?_
  rintro e w1 ⟨rfl, rfl⟩
  go_wp2_with fail
  refine HM.out.mono ?_
  rintro e w1 ⟨rfl, hb1⟩
  have HB1 := Lib.hid hb1
  clear hb1
  go_wp2_with fail
  refine (HH.out _).mono ?_
  rintro e w2 ⟨rfl, rfl⟩
  by_cases ho : a.occ s = true
  · rw [ho]
    rw [if_pos ho] at HMP
    have HF2 := Lib.hid (HF.out _ HB1.out ho)
    clear HF HKP HC HM HH
    go_wp2_with fail
    refine HF2.out.mono ?_
    rintro e w3 ⟨u, T', rfl, h1, h2, h3, h4, h5⟩
    have H1 := Lib.hid h1
    have H2 := Lib.hid h2
    have H3 := Lib.hid h3
    have H4 : Hid (Fr B T W w3) := Lib.hid ((Fr.of_below HB1.out).trans (Tgr.refl _ _) h4)
    have H5 : Hid (Tgr T W T') := Lib.hid (fun j hj => (h5 j hj).imp id fun h => Nat.le_trans HB1.out.size h)
    clear h1 h2 h3 h4 h5
    go_wp2
    go_ret
    refine ⟨_, T', rfl, ?_, ?_, ?_, H4.out, H5.out⟩
    · rw [HMP.out]; exact H1.out
    · rw [HMP.out]; exact Nat.le_trans H2.out (Nat.le_mul_of_pos_left _ hL0)
    · rw [HMP.out]; exact H3.out
  · have ho' : a.occ s = false := by simpa using ho
    rw [ho']
    rw [if_neg ho] at HMP
    clear HF HM HH
    go_wp2_with fail
    refine (HC.out _ HB1.out).mono ?_
    rintro e w3 ⟨u, rfl, h1, hb⟩
    have H1 := Lib.hid h1
    have HB3 := Lib.hid (bthen HB1.out hb)
    have H3 := Lib.hid (HKP.out _ HB3.out)
    have H4 : Hid (Fr B T W w3) := Lib.hid (Fr.of_below HB3.out)
    clear h1 hb HKP HC
    go_wp2
    go_ret
    refine ⟨_, T, rfl, ?_, ?_, ?_, H4.out, Tgr.refl _ _⟩
    · rw [HMP.out]; exact H1.out.sl
    · rw [HMP.out, HLL.out]; exact Nat.le_mul_of_pos_right _ HL.out.2
    · rw [HMP.out]; exact H3.out
/-- what stands at the head of a round of mapOuter's loop -/
structure MapR {σ : Type} (s : Nat) (st : σ → Fm → σ) (im : σ → Fm → Fm) (M : Nat) (B : Nat) (I : σ → (Nat → Prop) → World → Prop) (f : Fm) (x : Nd) (q : σ) (W : World) (T : Nat → Prop) (P : Value) (hs : List Hd) (j : Nat) (o : Value) (wr : World) (T' : Nat → Prop) : Prop where
  out : Ow cN 82 W.heap.size wr o (x :: (mpK s st im (kids f) q j).2)
  len : (mpK s st im (kids f) q j).2.length ≤ (((kids f).take j).flatMap enc).length * M
  hd : Ow cH 26 W.heap.size wr P hs
  outT : ∀ b, o.ownBlock = some b → ¬ T' b
  hdT : ∀ b, P.ownBlock = some b → ¬ T' b ∧ ¬ o.ownBlock = some b
  inv : I (mpK s st im (kids f) q j).1 T' wr
  fr : Fr B T W wr
  gr : Tgr T W T'
theorem MapR.outT1 {σ : Type} {s : Nat} {st : σ → Fm → σ} {im : σ → Fm → Fm} {M B : Nat} {I : σ → (Nat → Prop) → World → Prop} {f : Fm} {x : Nd} {q : σ} {W wr : World} {T T' T1 : Nat → Prop} {P : Value} {hs : List Hd} {j : Nat} {o : Value} (h : MapR s st im M B I f x q W T P hs j o wr T') (r5 : Tgr T' wr T1) :
    (∀ b, o.ownBlock = some b → ¬ T1 b) ∧ ∀ b, P.ownBlock = some b → ¬ T1 b :=
  ⟨fun b hb hT => (r5 b hT).elim (h.outT b hb) fun hge => by have := (h.out.block b hb).2; omega, fun b hb hT => (r5 b hT).elim (h.hdT b hb).1 fun hge => by have := (h.hd.block b hb).2; omega⟩
theorem kids_flat (f : Fm) (x : Nd) (t : List Nd) (he : enc f = x :: t) : (enc f).length = 1 + ((kids f).flatMap enc).length ∨ ∃ s, f = .var s ∨ f = .fls := by
  cases f with
  | var s => exact .inr ⟨s, .inl rfl⟩
  | fls => exact .inr ⟨0, .inr rfl⟩
  | bin k a b => left; simp [enc, kids]; omega
  | un k a => left; simp [enc, kids]; omega
theorem kids_flat' (f : Fm) (hm : ∀ k a, f ≠ .un k a) : (enc f).length = 1 + ((kids f).flatMap enc).length := by
  cases f with
  | var s => rfl
  | fls => rfl
  | bin k a b => simp [enc, kids]; omega
  | un k a => exact absurd rfl (hm k a)
theorem take_flat (L : List Fm) (j : Nat) (h : j < L.length) : ((L.take (j + 1)).flatMap enc).length = ((L.take j).flatMap enc).length + (enc (L.getD j .fls)).length := by
  rw [List.take_succ_eq_append_getElem h, List.flatMap_append, List.length_append, List.getD_eq_getElem?_getD, List.getElem?_eq_getElem h]
  simp
theorem take_flat_le (L : List Fm) (j : Nat) : ((L.take j).flatMap enc).length ≤ (L.flatMap enc).length := by
  have : L.flatMap enc = (L.take j).flatMap enc ++ (L.drop j).flatMap enc := by rw [← List.flatMap_append, List.take_append_drop]
  rw [this, List.length_append]; omega
set_option maxHeartbeats 1000000 in
set_option maxRecDepth 100000 in
theorem impl_mapOuter_go {σ : Type} {s : Nat} {R : List Fm} {st : σ → Fm → σ} {im : σ → Fm → Fm} {M : Nat} {kf : FuncId} {cap : Array Value} {w0 : World} {B : Nat} {I : σ → (Nat → Prop) → World → Prop} (F : MapF σ s R st im M kf cap w0 B I) (hM : M ≤ 8192)
    (f : Fm) (x : Nd) (t : List Nd) (he : enc f = x :: t) (hx4 : x.1 ≤ 4) (hm : ∀ k a, f ≠ .un k a) (ih : ∀ g ∈ kids f, MapOK σ s R st im M kf cap w0 B I g) (hkok : f.ok = true → ∀ g ∈ kids f, g.ok = true) (hkR : ∀ g ∈ kids f, ∀ x ∈ occs s g, x ∈ occs s f) : MapOK σ s R st im M kf cap w0 B I f := by
  intro hok hR hl q T W v hI hb0 hB h0
  have h := h0.below hb0
  have hfl := kids_flat' f hm
  have IH := Lib.hid (fun (j : Nat) (hj : j < (kids f).length) q T W v => ih _ (getF_mem hj) (hkok hok _ (getF_mem hj)) (fun x hx => hR x (hkR _ (getF_mem hj) x hx)) (by
    have h1 := take_flat (kids f) j hj
    have h2 := take_flat_le (kids f) (j + 1)
    omega) q T W v)
  have HPt := Lib.hid (fun W1 (hb : Below W.heap.size W W1) => parts_g f v w0 W1 h0 (hb0.trans (hb.mono hb0.size)) (by omega))
  have HLT := Lib.hid F.lt
  have HKP := Lib.hid F.keep
  have HB0 := Lib.hid hb0
  have HBB := Lib.hid hB
  have HI := Lib.hid hI
  have HTB := Lib.hid (F.lt q T W hI)
  have HBASE := Lib.hid F.base
  have HMO := Lib.hid (mpK_kids s st im f q x t he hm)
  have HFL := Lib.hid hfl
  have HP1 := Lib.hid F.pos
  have HSUC := Lib.hid (mpK_succ s st im (kids f) q)
  have HTF := Lib.hid (take_flat (kids f))
  have HTL := Lib.hid (take_flat_le (kids f))
  have HEN := Lib.hid he
  have HLE := Lib.hid hl
  obtain ⟨A, c, rfl⟩ := h.opn
  have hL0 : 0 < (enc f).length := enc_pos _
  rw [he] at h
  obtain ⟨b, oo, rfl, hb, hc0, hc1⟩ := h.atN0
  clear h he F ih hkok hkR hR hm h0 hI hb0 hB hok hl hfl
  generalize hLL : (enc f).length = L at *
  have HLL := Lib.hid hLL
  clear hLL
  obtain ⟨x1, x2⟩ := x
  simp only at hx4 hc0 hc1
  go_enter Tryz.func156, Tryz.ntmps156
  go_wp2_with fail
  refine (impl_isModal_no _ _ hx4).mono ?_
  rintro e w1 ⟨rfl, rfl⟩
  go_upto_region 6 with fail
  have hba := below_alloc' W (.cells #[.int .i64 x1, .int .i64 x2] 82)
  have O0 : Hid (Ow cN 82 W.heap.size (W.alloc (.cells #[.int .i64 x1, .int .i64 x2] 82)) (.slice (some ⟨W.heap.size, 0, none⟩) 1 1) [(x1, x2)]) := Lib.hid (Ow.lit [(x1, x2)] rfl rfl (Nat.le_refl _))
  have HI1 := Lib.hid (HKP.out q T W _ HI.out (hba.mono HBB.out) fun b hb' => hba.block b (HTB.out b hb').2)
  have HBA := Lib.hid hba
  have HSZ := Lib.hid (size_alloc' W (.cells #[.int .i64 x1, .int .i64 x2] 82))
  clear hba
  generalize World.alloc W _ = W1 at *
  go_wp2_with fail
  refine (HPt.out _ HBA.out).mono ?_
  rintro e w2 ⟨u, hs, rfl, hP, hH, hb2⟩
  obtain ⟨Ap, cp, rfl⟩ := hP.opn
  have HR : Hid (MapR s st im M B I f (x1, x2) q W T (.slice Ap hs.length cp) hs 0 (.slice (some ⟨W.heap.size, 0, none⟩) 1 1) w2 T) := Lib.hid {
    out := O0.out.below hb2
    len := Nat.zero_le _
    hd := hP.mono (by rw [HSZ.out]; omega)
    outT := fun b hb' hT => by
      have e : W.heap.size = b := by simpa [Value.ownBlock] using hb'
      have := (HTB.out b hT).2
      omega
    hdT := fun b hb' => by
      have h1 := (hP.block b hb').1
      rw [HSZ.out] at h1
      refine ⟨fun hT => ?_, fun h2 => ?_⟩
      · have := (HTB.out b hT).2
        omega
      · have e : W.heap.size = b := by simpa [Value.ownBlock] using h2
        omega
    inv := HKP.out q T _ _ HI1.out (hb2.mono (Nat.le_trans HBB.out (by rw [HSZ.out]; omega))) fun b hT => hb2.block b (by have := (HTB.out b hT).2; rw [HSZ.out]; omega)
    fr := Fr.of_below (bthen HBA.out hb2)
    gr := Tgr.refl _ _ }
  have HH := Lib.hid hH
  have HN : Hid (hs.length = (kids f).length) := Lib.hid hH.1
  have hn2 : hs.length ≤ 2 := by rw [hH.1]; exact kids_length f
  clear hP hH hb2 O0 HI1 HPt HI
  go_wp2
  go_loopw [7, 31] (fun o i wr => ∃ j : Nat, j ≤ hs.length ∧ i = .int .i64 j ∧ ∃ T', MapR s st im M B I f (x1, x2) q W T (.slice Ap hs.length cp) hs j o wr T') (fun _ i _ => hs.length - (intOf i).toNat)
  case atStart => exact ⟨0, Nat.zero_le _, rfl, T, HR.out⟩
  case round =>
    obtain ⟨j, hj, rfl, T', hr⟩ := hrel
    have HRj := Lib.hid hr
    clear hr HR
    by_cases hlt : j < hs.length
    · obtain ⟨b2, o2, rfl, hbl, d0⟩ := HRj.out.hd.sl.atHd hlt
      have hjk : j < (kids f).length := by rw [← HN.out]; exact hlt
      have HSl : Hid (Sl cN w0 (.slice hs[j].a hs[j].n hs[j].c) (enc ((kids f).getD j .fls))) := Lib.hid (by
        have := HH.out.2 j hlt hjk
        rw [List.getD_eq_getElem?_getD, List.getElem?_eq_getElem hjk]
        exact this)
      have HRun := Lib.hid (IH.out j hjk _ T' wr _ HRj.out.inv (HRj.out.fr.thenBelow HB0.out HBASE.out HB0.out.size) (Nat.le_trans HBB.out HRj.out.fr.size) HSl.out)
      have HJL := Lib.hid hjk
      clear HSl hjk
      have hbl2 := hbl
      generalize hs[j].a = a1 at *
      generalize hs[j].n = n1 at *
      generalize hs[j].c = c1 at *
      go_wp2_with fail
      refine HRun.out.mono ?_
      rintro e w3 ⟨u, T1, rfl, r1, r2, r3, r4, r5⟩
      have hout3 := HRj.out.out.fr r4 HRj.out.outT
      have hhd3 := HRj.out.hd.fr r4 fun b hb => (HRj.out.hdT b hb).1
      have oT1 := (HRj.out.outT1 r5).1
      have pT1 := (HRj.out.outT1 r5).2
      have T1lt := HLT.out _ T1 w3 r3
      have hlen3 : (mpK s st im (kids f) q j).2.length + (enc (mpO s st im ((kids f).getD j .fls) (mpK s st im (kids f) q j).1).2).length ≤ (((kids f).take (j + 1)).flatMap enc).length * M := by
        rw [HTF.out j HJL.out, Nat.add_mul]
        exact Nat.add_le_add HRj.out.len r2
      have hcap : (((kids f).take (j + 1)).flatMap enc).length * M ≤ 100 * 8192 := Nat.mul_le_mul (by have := HTL.out (j + 1); have := HFL.out; have := HLE.out; have := HLL.out; omega) hM
      have HO3 := Lib.hid hout3
      have HP3 := Lib.hid hhd3
      have HOT := Lib.hid oT1
      have HPT := Lib.hid pT1
      have HTL1 := Lib.hid T1lt
      have HU := Lib.hid r1
      have HI3 := Lib.hid r3
      have HF3 := Lib.hid (HRj.out.fr.trans HRj.out.gr r4)
      have HG3 := Lib.hid (HRj.out.gr.trans HRj.out.fr.size r5)
      have HL3 := Lib.hid hlen3
      have HC3 := Lib.hid hcap
      have HW3 := Lib.hid (Nat.le_trans HRj.out.fr.size r4.size)
      clear hout3 hhd3 oT1 pT1 T1lt hlen3 hcap r1 r2 r3 r4 r5 HRun
      go_wp2_with (at_builtin; refine stopHere ?_)
      refine goHere ?_
      refine ap_sl (K := cN) _ ty_node rfl _ _ rfl rfl rfl (B := W.heap.size) (xs := (x1, x2) :: (mpK s st im (kids f) q j).2) (news := enc (mpO s st im ((kids f).getD j .fls) (mpK s st im (kids f) q j).1).2) HO3.out HU.out (by have := HL3.out; have := HC3.out; rw [List.length_cons]; omega) HW3.out ?_
      intro v1 w4 ho1 hg1 hb1 hat1
      have HR1 : Hid (MapR s st im M B I f (x1, x2) q W T (.slice (some ⟨b2, o2, none⟩) hs.length cp) hs (j + 1) v1 w4 T1) := Lib.hid {
        out := by rw [HSUC.out]; exact ho1
        len := by rw [HSUC.out, List.length_append]; exact HL3.out
        hd := HP3.out.kept hg1 (by
          cases hv : (Value.slice (some ⟨b2, o2, none⟩) hs.length cp).ownBlock with
          | none => exact .inl rfl
          | some bb => exact .inr fun he => (HRj.out.hdT bb hv).2 he.symm)
        outT := fun bb hb hT => by
          rcases hat1 with h | h
          · exact HOT.out bb (h ▸ hb) hT
          · have e : w3.heap.size = bb := by rw [h] at hb; simpa using hb
            have := (HTL1.out bb hT).2; omega
        hdT := fun bb hb => ⟨HPT.out bb hb, fun h2 => by
          rcases hat1 with h | h
          · exact (HRj.out.hdT bb hb).2 (h ▸ h2)
          · have e : w3.heap.size = bb := by rw [h] at h2; simpa using h2
            have := (HP3.out.block bb hb).2; omega⟩
        inv := by
          rw [HSUC.out]
          refine HKP.out _ T1 _ _ HI3.out (hb1.mono HBB.out) fun bb hT => hg1.block bb (HTL1.out bb hT).2 fun he => HOT.out bb he.symm hT
        fr := HF3.out.trans (T1 := fun k => W.heap.size ≤ k) (fun k hk => .inr hk) (Fr.of_grown hg1 fun k hk => by
          have := (HO3.out.block k hk).1
          exact ⟨Nat.le_trans HBB.out this, this⟩)
        gr := HG3.out }
      clear ho1 hg1 hb1 hat1
      go_wp2
      go_roundw
      case rel => exact ⟨j + 1, by omega, by go_num, T1, HR1.out⟩
      case measure => simp [intOf]; omega
    · have hE : j = (kids f).length := by rw [← HN.out]; omega
      subst hE
      have HM1 := Lib.hid HMO.out.1
      have HM2 := Lib.hid HMO.out.2
      go_wp2
      go_ret
      refine ⟨_, T', rfl, ?_, ?_, ?_, HRj.out.fr, HRj.out.gr⟩
      · rw [HM2.out]; exact HRj.out.out.sl
      · rw [HM2.out, List.length_cons]
        have h1 := HRj.out.len
        rw [List.take_length] at h1
        have h2 := HFL.out
        have h3 := HLL.out
        rw [show L = 1 + ((kids f).flatMap enc).length by omega, Nat.add_mul, Nat.one_mul]
        have := HP1.out
        omega
      · rw [HM1.out]; exact HRj.out.inv
theorem impl_mapOuter {σ : Type} {s : Nat} {R : List Fm} {st : σ → Fm → σ} {im : σ → Fm → Fm} {M : Nat} {kf : FuncId} {cap : Array Value} {w0 : World} {B : Nat} {I : σ → (Nat → Prop) → World → Prop} (F : MapF σ s R st im M kf cap w0 B I) (hM : M ≤ 8192) (hs5 : s ≤ 5)
    (f : Fm) : MapOK σ s R st im M kf cap w0 B I f := by
  induction f with
  | var t => exact impl_mapOuter_go F hM (.var t) (0, (t : Int)) [] rfl (by simp) (fun k a h => by cases h) (fun g hg => by simp [kids] at hg) (fun _ g hg => by simp [kids] at hg) (fun g hg => by simp [kids] at hg)
  | fls => exact impl_mapOuter_go F hM .fls (1, 0) [] rfl (by decide) (fun k a h => by cases h) (fun g hg => by simp [kids] at hg) (fun _ g hg => by simp [kids] at hg) (fun g hg => by simp [kids] at hg)
  | bin k a b iha ihb =>
    refine impl_mapOuter_go F hM (.bin k a b) (k.i, 0) (enc a ++ enc b) rfl (by cases k <;> decide) (fun k a h => by cases h) (fun g hg => ?_) (fun hok g hg => ?_) (fun g hg x hx => ?_)
    · simp only [kids, List.mem_cons, List.not_mem_nil, or_false] at hg
      rcases hg with rfl | rfl
      · exact iha
      · exact ihb
    · simp only [Fm.ok, Bool.and_eq_true] at hok
      simp only [kids, List.mem_cons, List.not_mem_nil, or_false] at hg
      rcases hg with rfl | rfl
      · exact hok.1
      · exact hok.2
    · simp only [kids, List.mem_cons, List.not_mem_nil, or_false] at hg
      rw [occs, List.mem_append]
      rcases hg with rfl | rfl
      · exact .inl hx
      · exact .inr hx
  | un k a ih => exact impl_mapOuter_un F hs5 k a
end Go.Proofs.YtgcoohlakcncbaaGreat
