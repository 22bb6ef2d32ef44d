/- Joined of several texts: 14k, 14l, 14o. -/
import Derived.Test.YtboldkahppdmbaaGreatDoor14a
import Derived.Test.YtboldkahppdmbaaGreatDoorB6
import Derived.Test.YtboldkahppdmbaaGreatDoor14n
import Derived.Test.YtboldkahppdmbaaGreatDoorFB
import Derived.Test.YtboldkahppdmbaaGreatDoorJ05
import Derived.Deep.RegionLaw
namespace Go.Proofs.YtboldkahppdmbaaGreatDoor
open Go.RowKit
set_option linter.unusedVariables false
set_option linter.unusedSimpArgs false
/- Contracts of chapter 14, of the reference: l14Parts. -/
set_option maxRecDepth 100000 in
theorem spec_l14Parts (v : Value) (f : Fm) (w : World) (h : Sl cN w v (enc f)) (hl : (enc f).length ≤ 1000) :
    Calls Tryz.prog 104 #[v] w fun e w' => ∃ (u : Value) (hs : List Hd), e = .returned u ∧ Ow cH 29 w.heap.size w' u hs ∧ hs.length = (enc f).length ∧ (∀ W0, Sl cN W0 v (enc f) → ∀ i (hi : i < hs.length), Sl cN W0 hs[i].val (enc (pt f i))) ∧ Below w.heap.size w w' := by
  obtain ⟨A, c, rfl⟩ := h.opn
  obtain ⟨-, hc, hm⟩ := h.cap
  have HS := Lib.hid h
  clear h
  go_enter Tryz.func104, Tryz.ntmps104
  go_wp2
  go_loopw [3, 4] (fun u i wr => ∃ (j : Nat) (hs : List Hd), j ≤ (enc f).length ∧ i = .int .i64 j ∧ Ow cH 29 w.heap.size wr u hs ∧ hs.length = j ∧ (∀ W0, Sl cN W0 (.slice A (enc f).length c) (enc f) → ∀ i (hi : i < hs.length), Sl cN W0 hs[i].val (enc (pt f i))) ∧ Below w.heap.size w wr) (fun _ i _ => (enc f).length - (intOf i).toNat)
  case atStart => exact ⟨0, [], Nat.zero_le _, rfl, Ow.lit [] rfl rfl (Nat.le_refl _), rfl, fun W0 h0 i hi => by simp at hi, (Below.refl _ _).alloc (Nat.le_refl _) _⟩
  case round =>
    obtain ⟨j, hs, hj, rfl, ho, hhl, hhs, hb⟩ := hrel
    obtain ⟨Ao, co, rfl⟩ := ho.opn
    have HO := Lib.hid ho
    have HHL := Lib.hid hhl
    have HHS := Lib.hid hhs
    have HB := Lib.hid hb
    have hsz := hb.size
    rw [HHL.out] at HO ⊢
    by_cases hlt : j < (enc f).length
    · obtain ⟨rest, hd⟩ := pt_drop f j hlt
      have hlen := congrArg List.length hd
      rw [List.length_drop, List.length_append] at hlen
      have hp := enc_pos (pt f j)
      have hpe : pe ((enc f).drop j) 1 j = ((j + (enc (pt f j)).length : Nat) : Int) := by rw [hd, pe_enc1]; omega
      have HPE := Lib.hid hpe
      have HP := Lib.hid (fun W (hW : Sl cN W (.slice A (enc f).length c) (enc f)) => spec_l02Part _ (enc f) j W hW (by omega) (by omega))
      have HCUT : Hid (∀ W0 (c' : Nat), (enc (pt f j)).length ≤ c' → c' ≤ 9223372036854775807 → Sl cN W0 (.slice A (enc f).length c) (enc f) → ∀ A', (∀ b o, A = some ⟨b, o, none⟩ → A' = some ⟨b, o + j * 2, none⟩) → Sl cN W0 (.slice A' (enc (pt f j)).length c') (enc (pt f j))) := Lib.hid (fun W0 c' h1 h2 h0 A' hA => by
        have := h0.cutAt (i := j) (j := j + (enc (pt f j)).length) (c' := c') (n' := (enc (pt f j)).length) (by omega) (by omega) (by omega) hA h1 h2
        rwa [hd, Nat.add_sub_cancel_left, List.take_left] at this)
      have hS1 := HS.out.below hb
      clear ho hhl hhs hb hd hpe
      obtain ⟨m, hmm⟩ : ∃ m, (enc (pt f j)).length = m := ⟨_, rfl⟩
      rw [hmm] at HPE HCUT hlen hp
      obtain ⟨b, o, rfl, -⟩ := hS1.atN hlt
      have HS1 := Lib.hid hS1
      clear hS1
      go_wp2_with fail
      refine (HP.out _ HS1.out).mono ?_
      rintro e w1 ⟨rfl, rfl⟩
      rw [HPE.out]
      have i1 : j + m ≤ (enc f).length := by omega
      clear hlen hmm
      go_wp2_with (at_builtin; refine stopHere ?_)
      refine goHere ?_
      refine ap_one (K := cH) _ ty_nodes rfl _ _ rfl (B := w.heap.size) (xs := hs) rfl HO.out (⟨some ⟨b, o + j * 2, none⟩, m, c - j⟩ : Hd) rfl rfl (by rw [HHL.out]; omega) hsz ?_
      intro v1 w2 ho1 hg1 hb1 hat1
      have O1 := Lib.hid ho1
      have HB2 := Lib.hid (HB.out.trans hb1)
      have HH2 : Hid (∀ W0, Sl cN W0 (.slice (some ⟨b, o, none⟩) (enc f).length c) (enc f) → ∀ i (hi : i < (hs ++ [(⟨some ⟨b, o + j * 2, none⟩, m, c - j⟩ : Hd)]).length), Sl cN W0 ((hs ++ [(⟨some ⟨b, o + j * 2, none⟩, m, c - j⟩ : Hd)])[i]).val (enc (pt f i))) := Lib.hid (fun W0 h0 i hi => by
        rcases Nat.lt_or_ge i hs.length with h1 | h1
        · rw [List.getElem_append_left h1]; exact HHS.out W0 h0 i h1
        · have e1 : i = hs.length := by simp at hi; omega
          subst e1
          rw [List.getElem_append_right (Nat.le_refl _)]
          simp only [Nat.sub_self, List.getElem_singleton]
          rw [HHL.out]
          have hcc := h0.cap
          refine HCUT.out W0 (c - j) (by omega) (by omega) h0 (some ⟨b, o + j * 2, none⟩) fun b' o' e => ?_
          injection e with e
          injection e with e1 e2
          subst e1; subst e2; rfl)
      have HL2 := Lib.hid (show (hs ++ [(⟨some ⟨b, o + j * 2, none⟩, m, c - j⟩ : Hd)]).length = j + 1 by rw [List.length_append, HHL.out]; rfl)
      clear ho1 hg1 hb1 hat1
      go_wp2
      go_roundw
      case rel => exact ⟨j + 1, _, by omega, by go_num, O1.out, HL2.out, HH2.out, HB2.out⟩
      case measure => simp [intOf]; omega
    · obtain rfl : j = (enc f).length := by omega
      clear ho hb hhl hhs
      go_wp2
      go_ret
      exact ⟨_, _, rfl, HO.out, HHL.out, HHS.out, HB.out⟩
/- Contracts of chapter 14, of the reference: what the first loop of l14Make keeps. -/
/-- two slices have no block in common -/
def Sep (a b : Value) : Prop := ∀ g, a.ownBlock = some g → ¬ b.ownBlock = some g
theorem Sep.symm {a b : Value} (h : Sep a b) : Sep b a := fun g h1 h2 => h g h2 h1
theorem Sep.new {a a' b : Value} {k : Nat} (h : Sep a b) (hat : a'.ownBlock = a.ownBlock ∨ a'.ownBlock = some k) (hb : ∀ g, b.ownBlock = some g → g < k) : Sep a' b := by
  intro g h1 h2
  rcases hat with e | e
  · exact h g (by rw [← e]; exact h1) h2
  · rw [h1] at e
    injection e with e
    have := hb g h2
    omega
theorem Sep.ne {a b : Value} (h : Sep a b) : b.ownBlock = none ∨ b.ownBlock ≠ a.ownBlock := by
  cases hb : b.ownBlock with
  | none => exact .inl rfl
  | some k => exact .inr fun e => h k e.symm hb
theorem Sep.nil {a : Value} {n c : Nat} : Sep a (.slice none n c) := fun g _ h => by cases h
theorem Sep.nil' {a : Value} {n c : Nat} : Sep (.slice none n c) a := fun g h _ => by cases h
theorem Ow.lts {α : Type} {K : Cod α} {e : TypeId} {B : Nat} {w : World} {v : Value} {xs : List α} (h : Ow K e B w v xs) {k : Nat} (hk : w.heap.size ≤ k) : ∀ g, v.ownBlock = some g → g < k := fun g hg => Nat.lt_of_lt_of_le (h.block g hg).2 hk
/-- the state of l14Make's first loop: W its first world, g0 its size; blocks g0 .. g0 + 3: the masks' first row, the classes' and the first worlds' rows, the space -/
structure S1 (W wr : World) (g0 : Nat) (n a0 a1 msk bo inn out : Value) (ms is os : List Int) (bs : List Bool) : Prop where
  sz : g0 + 4 ≤ wr.heap.size
  be : Below g0 W wr
  pb : Blk wr (g0 + 3) 59 #[n, a0, a1, .slice (some ⟨g0 + 1, 0, none⟩) 0 0, .slice (some ⟨g0 + 2, 0, none⟩) 0 0, bo, inn, out]
  c1 : Blk wr (g0 + 1) 2 #[]
  c2 : Blk wr (g0 + 2) 2 #[]
  om : Ow cI 2 g0 wr msk ms
  mb : ∀ g, msk.ownBlock = some g → g = g0 ∨ g0 + 4 ≤ g
  ob : Ow cB 4 (g0 + 4) wr bo bs
  oi : Ow cI 2 (g0 + 4) wr inn is
  oo : Ow cI 2 (g0 + 4) wr out os
  s1 : Sep msk bo
  s2 : Sep msk inn
  s3 : Sep msk out
  s4 : Sep bo inn
  s5 : Sep bo out
  s6 : Sep inn out
section
variable {W wr w' : World} {g0 : Nat} {n a0 a1 msk bo inn out : Value} {ms is os : List Int} {bs : List Bool}
theorem S1.below (h : S1 W wr g0 n a0 a1 msk bo inn out ms is os bs) (hb : Below wr.heap.size wr w') : S1 W w' g0 n a0 a1 msk bo inn out ms is os bs :=
  ⟨Nat.le_trans h.sz hb.size, h.be.trans (hb.mono (by have := h.sz; omega)), h.pb.below hb h.pb.lt, h.c1.below hb h.c1.lt, h.c2.below hb h.c2.lt, h.om.below hb, h.mb, h.ob.below hb, h.oi.below hb, h.oo.below hb, h.s1, h.s2, h.s3, h.s4, h.s5, h.s6⟩
theorem S1.pushM {w5 : World} {v1 : Value} {zs : List Int} {cs : Array Value} (h : S1 W wr g0 n a0 a1 msk bo inn out ms is os bs) (ho : Ow cI 2 g0 w5 v1 zs) (hg : (wr.alloc (.cells cs 2)).grownBy w5 msk.ownBlock) (hb : Below g0 wr w5) (hat : v1.ownBlock = msk.ownBlock ∨ v1.ownBlock = some (wr.heap.size + 1)) :
    S1 W w5 g0 n a0 a1 v1 bo inn out zs is os bs := by
  have hz := h.sz
  have ne : ∀ g, g0 < g → g < g0 + 4 → some g ≠ msk.ownBlock := fun g h1 h2 e => by have := h.mb g e.symm; omega
  refine ⟨Nat.le_trans h.sz hb.size, h.be.trans hb, (h.pb.alloc _).grown hg (ne _ (by omega) (by omega)), (h.c1.alloc _).grown hg (ne _ (by omega) (by omega)), (h.c2.alloc _).grown hg (ne _ (by omega) (by omega)), ho, fun g hg2 => ?_,
    (h.ob.alloc _).kept hg h.s1.ne, (h.oi.alloc _).kept hg h.s2.ne, (h.oo.alloc _).kept hg h.s3.ne, h.s1.new hat (h.ob.lts (by omega)), h.s2.new hat (h.oi.lts (by omega)), h.s3.new hat (h.oo.lts (by omega)), h.s4, h.s5, h.s6⟩
  rcases hat with e | e
  · exact h.mb g (by rw [← e]; exact hg2)
  · rw [hg2] at e; injection e with e; omega
theorem S1.pushB {w5 : World} {v1 : Value} {zs : List Bool} {cs : Array Value} (h : S1 W wr g0 n a0 a1 msk bo inn out ms is os bs) (ho : Ow cB 4 (g0 + 4) w5 v1 zs) (hg : (wr.alloc (.cells cs 4)).grownBy w5 bo.ownBlock) (hb : Below (g0 + 4) wr w5) (hat : v1.ownBlock = bo.ownBlock ∨ v1.ownBlock = some (wr.heap.size + 1)) :
    S1 W (w5.setCell ⟨g0 + 3, 5, none⟩ v1) g0 n a0 a1 msk v1 inn out ms is os zs := by
  have hz := h.sz
  have ne : ∀ g, g < g0 + 4 → some g ≠ bo.ownBlock := fun g h1 e => by have := (h.ob.block g e.symm).1; omega
  have lt3 : ∀ {α : Type} {K : Cod α} {e : TypeId} {v : Value} {xs : List α}, Ow K e (g0 + 4) w5 v xs → Ow K e (g0 + 4) (w5.setCell ⟨g0 + 3, 5, none⟩ v1) v xs := fun h => h.setBelow (p := ⟨g0 + 3, 5, none⟩) (by show g0 + 3 < g0 + 4; omega) _
  refine ⟨by simp only [World.setCell, Array.size_modify]; exact Nat.le_trans h.sz hb.size, (h.be.trans (hb.mono (by omega))).setCell (p := ⟨g0 + 3, 5, none⟩) (by show g0 ≤ g0 + 3; omega) _, ((h.pb.alloc _).grown hg (ne _ (by omega))).set_ 5 v1,
    ((h.c1.alloc _).grown hg (ne _ (by omega))).far (p := ⟨g0 + 3, 5, none⟩) (by show g0 + 1 ≠ g0 + 3; omega) _, ((h.c2.alloc _).grown hg (ne _ (by omega))).far (p := ⟨g0 + 3, 5, none⟩) (by show g0 + 2 ≠ g0 + 3; omega) _,
    ((h.om.alloc _).kept hg h.s1.symm.ne).far (p := ⟨g0 + 3, 5, none⟩) (fun e => by have := h.mb (g0 + 3) e; omega) _, h.mb, lt3 ho, lt3 ((h.oi.alloc _).kept hg h.s4.ne), lt3 ((h.oo.alloc _).kept hg h.s5.ne), (h.s1.symm.new hat (h.om.lts (by omega))).symm, h.s2, h.s3, h.s4.new hat (h.oi.lts (by omega)), h.s5.new hat (h.oo.lts (by omega)), h.s6⟩
theorem S1.pushI {w5 : World} {v1 : Value} {zs : List Int} {cs : Array Value} (h : S1 W wr g0 n a0 a1 msk bo inn out ms is os bs) (ho : Ow cI 2 (g0 + 4) w5 v1 zs) (hg : (wr.alloc (.cells cs 2)).grownBy w5 inn.ownBlock) (hb : Below (g0 + 4) wr w5) (hat : v1.ownBlock = inn.ownBlock ∨ v1.ownBlock = some (wr.heap.size + 1)) :
    S1 W (w5.setCell ⟨g0 + 3, 6, none⟩ v1) g0 n a0 a1 msk bo v1 out ms zs os bs := by
  have hz := h.sz
  have ne : ∀ g, g < g0 + 4 → some g ≠ inn.ownBlock := fun g h1 e => by have := (h.oi.block g e.symm).1; omega
  have lt3 : ∀ {α : Type} {K : Cod α} {e : TypeId} {v : Value} {xs : List α}, Ow K e (g0 + 4) w5 v xs → Ow K e (g0 + 4) (w5.setCell ⟨g0 + 3, 6, none⟩ v1) v xs := fun h => h.setBelow (p := ⟨g0 + 3, 6, none⟩) (by show g0 + 3 < g0 + 4; omega) _
  refine ⟨by simp only [World.setCell, Array.size_modify]; exact Nat.le_trans h.sz hb.size, (h.be.trans (hb.mono (by omega))).setCell (p := ⟨g0 + 3, 6, none⟩) (by show g0 ≤ g0 + 3; omega) _, ((h.pb.alloc _).grown hg (ne _ (by omega))).set_ 6 v1,
    ((h.c1.alloc _).grown hg (ne _ (by omega))).far (p := ⟨g0 + 3, 6, none⟩) (by show g0 + 1 ≠ g0 + 3; omega) _, ((h.c2.alloc _).grown hg (ne _ (by omega))).far (p := ⟨g0 + 3, 6, none⟩) (by show g0 + 2 ≠ g0 + 3; omega) _,
    ((h.om.alloc _).kept hg h.s2.symm.ne).far (p := ⟨g0 + 3, 6, none⟩) (fun e => by have := h.mb (g0 + 3) e; omega) _, h.mb, lt3 ((h.ob.alloc _).kept hg h.s4.symm.ne), lt3 ho, lt3 ((h.oo.alloc _).kept hg h.s6.ne), h.s1, (h.s2.symm.new hat (h.om.lts (by omega))).symm, h.s3, (h.s4.symm.new hat (h.ob.lts (by omega))).symm, h.s5, h.s6.new hat (h.oo.lts (by omega))⟩
theorem S1.pushO {w5 : World} {v1 : Value} {zs : List Int} {cs : Array Value} (h : S1 W wr g0 n a0 a1 msk bo inn out ms is os bs) (ho : Ow cI 2 (g0 + 4) w5 v1 zs) (hg : (wr.alloc (.cells cs 2)).grownBy w5 out.ownBlock) (hb : Below (g0 + 4) wr w5) (hat : v1.ownBlock = out.ownBlock ∨ v1.ownBlock = some (wr.heap.size + 1)) :
    S1 W (w5.setCell ⟨g0 + 3, 7, none⟩ v1) g0 n a0 a1 msk bo inn v1 ms is zs bs := by
  have hz := h.sz
  have ne : ∀ g, g < g0 + 4 → some g ≠ out.ownBlock := fun g h1 e => by have := (h.oo.block g e.symm).1; omega
  have lt3 : ∀ {α : Type} {K : Cod α} {e : TypeId} {v : Value} {xs : List α}, Ow K e (g0 + 4) w5 v xs → Ow K e (g0 + 4) (w5.setCell ⟨g0 + 3, 7, none⟩ v1) v xs := fun h => h.setBelow (p := ⟨g0 + 3, 7, none⟩) (by show g0 + 3 < g0 + 4; omega) _
  refine ⟨by simp only [World.setCell, Array.size_modify]; exact Nat.le_trans h.sz hb.size, (h.be.trans (hb.mono (by omega))).setCell (p := ⟨g0 + 3, 7, none⟩) (by show g0 ≤ g0 + 3; omega) _, ((h.pb.alloc _).grown hg (ne _ (by omega))).set_ 7 v1,
    ((h.c1.alloc _).grown hg (ne _ (by omega))).far (p := ⟨g0 + 3, 7, none⟩) (by show g0 + 1 ≠ g0 + 3; omega) _, ((h.c2.alloc _).grown hg (ne _ (by omega))).far (p := ⟨g0 + 3, 7, none⟩) (by show g0 + 2 ≠ g0 + 3; omega) _,
    ((h.om.alloc _).kept hg h.s3.symm.ne).far (p := ⟨g0 + 3, 7, none⟩) (fun e => by have := h.mb (g0 + 3) e; omega) _, h.mb, lt3 ((h.ob.alloc _).kept hg h.s5.symm.ne), lt3 ((h.oi.alloc _).kept hg h.s6.symm.ne), lt3 ho, h.s1, h.s2, (h.s3.symm.new hat (h.om.lts (by omega))).symm, h.s4, (h.s5.symm.new hat (h.ob.lts (by omega))).symm, (h.s6.symm.new hat (h.oi.lts (by omega))).symm⟩
end
/- Contracts of chapter 14, of the reference: what the second loop of l14Make keeps. -/
theorem Sl.atH {w : World} {A : Option Addr} {n c : Nat} {xs : List Hd} (h : Sl cH w (.slice A n c) xs) {k : Nat} (hk : k < xs.length) :
    ∃ b o, A = some ⟨b, o, none⟩ ∧ b < w.heap.size ∧ w.cell? ⟨b, o + k, none⟩ = some (.slice xs[k].a xs[k].n xs[k].c) := by
  obtain ⟨b, o, hA, hb, hc⟩ := h.cell hk
  have := hc 0 (.slice xs[k].a xs[k].n xs[k].c) rfl
  exact ⟨b, o, hA, hb, by simpa [cH] using this⟩
theorem enc_head (g : Fm) : ((enc g)[0]'(enc_pos g)).1 = hnd g := by cases g <;> rfl
theorem Sl.tl {W : World} {b o L c : Nat} {k : UK} {a : Fm} (h : Sl cN W (.slice (some ⟨b, o, none⟩) L c) (enc (.un k a))) : Sl cN W (.slice (some ⟨b, o + 2, none⟩) (L - 1) (c - 1)) (enc a) ∧ L ≤ c ∧ 1 < L ∧ c ≤ 9223372036854775807 := by
  obtain ⟨hL, hcap, hmm⟩ := h.cap
  have hp := enc_pos a
  have hlen : (enc (.un k a)).length = (enc a).length + 1 := by simp [enc]
  have hcut := h.cutAt (A' := some ⟨b, o + 2, none⟩) (n' := L - 1) (i := 1) (j := (enc (.un k a)).length) (c' := c - 1) (by omega) (by omega) (by omega)
    (fun b' o' hA => by injection hA with hA; injection hA with h1 h2 _; subst h1; subst h2; rfl) (by omega) (by omega)
  rw [show List.take ((enc (.un k a)).length - 1) (List.drop 1 (enc (.un k a))) = enc a by simp [enc]] at hcut
  exact ⟨hcut, by omega, by omega, hmm⟩
def m1 (L : List (Bool × Nat × Nat)) : List Bool := L.map (·.1)
def m2 (L : List (Bool × Nat × Nat)) : List Nat := L.map (·.2.1)
def m3 (L : List (Bool × Nat × Nat)) : List Nat := L.map (·.2.2)
/-- the masks of the first k parts -/
def tvl (ns us : List Nat) (f : Fm) (k : Nat) : List Nat := (List.range k).map fun i => tv ns us (pt f i)
theorem tvl_length (ns us : List Nat) (f : Fm) (k : Nat) : (tvl ns us f k).length = k := by simp [tvl]
theorem tvl_succ (ns us : List Nat) (f : Fm) (k : Nat) : tvl ns us f (k + 1) = tvl ns us f k ++ [tv ns us (pt f k)] := by simp [tvl, List.range_succ]
theorem tvl_getD (ns us : List Nat) (f : Fm) {k i : Nat} (h : i < k) : (tvl ns us f k).getD i 0 = tv ns us (pt f i) := by simp [tvl, h]
theorem Ow.empty {t : TypeId} {w : World} {g B : Nat} (h : Blk w g t #[]) (hB : B ≤ g) : Ow cI t B w (.slice (some ⟨g, 0, none⟩) 0 0) [] :=
  ⟨⟨_, _, rfl, Nat.le_refl _, by omega⟩, rfl, .inr ⟨g, 0, #[], rfl, hB, h, Nat.le_refl _, by simp only [maxLen]; omega, rfl, rfl⟩⟩
/-- the state of l14Make's second loop: blocks from B3 on are its own, beside the rows of the classes and of the first worlds -/
structure S2 (W wr : World) (g0 B3 : Nat) (n a0 a1 msk cls fst bo inn out : Value) (ms is os cs fs : List Int) (bs : List Bool) : Prop where
  sz : B3 ≤ wr.heap.size
  gb : g0 + 4 ≤ B3
  be : Below g0 W wr
  pb : Blk wr (g0 + 3) 59 #[n, a0, a1, cls, fst, bo, inn, out]
  om : Ow cI 2 g0 wr msk ms
  mb : ∀ g, msk.ownBlock = some g → (g = g0 ∨ g0 + 4 ≤ g) ∧ g < B3
  ob : Ow cB 4 (g0 + 4) wr bo bs
  bb : ∀ g, bo.ownBlock = some g → g < B3
  oi : Ow cI 2 (g0 + 4) wr inn is
  bi : ∀ g, inn.ownBlock = some g → g < B3
  oo : Ow cI 2 (g0 + 4) wr out os
  bz : ∀ g, out.ownBlock = some g → g < B3
  oc : Ow cI 2 (g0 + 1) wr cls cs
  cb : ∀ g, cls.ownBlock = some g → g = g0 + 1 ∨ B3 ≤ g
  of : Ow cI 2 (g0 + 1) wr fst fs
  fb : ∀ g, fst.ownBlock = some g → g = g0 + 2 ∨ B3 ≤ g
  sp : Sep cls fst
section
variable {W wr w' : World} {g0 B3 : Nat} {n a0 a1 msk cls fst bo inn out : Value} {ms is os cs fs : List Int} {bs : List Bool}
theorem S1.two (h : S1 W wr g0 n a0 a1 msk bo inn out ms is os bs) : S2 W wr g0 wr.heap.size n a0 a1 msk (.slice (some ⟨g0 + 1, 0, none⟩) 0 0) (.slice (some ⟨g0 + 2, 0, none⟩) 0 0) bo inn out ms is os [] [] bs :=
  ⟨Nat.le_refl _, h.sz, h.be, h.pb, h.om, fun g hg => ⟨h.mb g hg, (h.om.block g hg).2⟩, h.ob, fun g hg => (h.ob.block g hg).2, h.oi, fun g hg => (h.oi.block g hg).2, h.oo, fun g hg => (h.oo.block g hg).2,
    Ow.empty h.c1 (Nat.le_refl _), fun g hg => by injection hg with hg; exact .inl hg.symm, Ow.empty h.c2 (by omega), fun g hg => by injection hg with hg; exact .inl hg.symm, fun g h1 h2 => by injection h1 with h1; injection h2 with h2; simp only at h1 h2; omega⟩
theorem S2.below (h : S2 W wr g0 B3 n a0 a1 msk cls fst bo inn out ms is os cs fs bs) (hb : Below wr.heap.size wr w') : S2 W w' g0 B3 n a0 a1 msk cls fst bo inn out ms is os cs fs bs :=
  ⟨Nat.le_trans h.sz hb.size, h.gb, h.be.trans (hb.mono (by have := h.sz; have := h.gb; omega)), h.pb.below hb h.pb.lt, h.om.below hb, h.mb, h.ob.below hb, h.bb, h.oi.below hb, h.bi, h.oo.below hb, h.bz, h.oc.below hb, h.cb, h.of.below hb, h.fb, h.sp⟩
theorem S2.pushC {w5 : World} {v1 : Value} {zs : List Int} {cz : Array Value} (h : S2 W wr g0 B3 n a0 a1 msk cls fst bo inn out ms is os cs fs bs) (ho : Ow cI 2 (g0 + 1) w5 v1 zs) (hg : (wr.alloc (.cells cz 2)).grownBy w5 cls.ownBlock) (hb : Below (g0 + 1) wr w5) (hat : v1.ownBlock = cls.ownBlock ∨ v1.ownBlock = some (wr.heap.size + 1)) :
    S2 W (w5.setCell ⟨g0 + 3, 3, none⟩ v1) g0 B3 n a0 a1 msk v1 fst bo inn out ms is os zs fs bs := by
  have hz := h.sz
  have hgb := h.gb
  have ne3 : some (g0 + 3) ≠ cls.ownBlock := fun e => by have := h.cb _ e.symm; omega
  have nv : v1.ownBlock ≠ some (g0 + 3) := fun e => by
    rcases hat with e2 | e2
    · exact ne3 (by rw [← e2, e])
    · rw [e] at e2; injection e2; omega
  have dj : ∀ {v : Value}, (∀ g, v.ownBlock = some g → g ≠ g0 + 1 ∧ g < B3) → v.ownBlock = none ∨ v.ownBlock ≠ cls.ownBlock := fun {v} hv => by
    cases hv2 : v.ownBlock with
    | none => exact .inl rfl
    | some k =>
      refine .inr fun e => ?_
      have h1 := hv k hv2
      have h2 := h.cb k e.symm
      omega
  have lt3 : ∀ {α : Type} {K : Cod α} {e : TypeId} {v : Value} {xs : List α}, Ow K e (g0 + 4) w5 v xs → Ow K e (g0 + 4) (w5.setCell ⟨g0 + 3, 3, none⟩ v1) v xs := fun h => h.setBelow (p := ⟨g0 + 3, 3, none⟩) (by show g0 + 3 < g0 + 4; omega) _
  refine ⟨by simp only [World.setCell, Array.size_modify]; exact Nat.le_trans hz hb.size, hgb, (h.be.trans (hb.mono (by omega))).setCell (p := ⟨g0 + 3, 3, none⟩) (by show g0 ≤ g0 + 3; omega) _, ((h.pb.alloc _).grown hg ne3).set_ 3 v1,
    ((h.om.alloc _).kept hg (dj fun g hg => by have := h.mb g hg; omega)).far (p := ⟨g0 + 3, 3, none⟩) (fun e => by have := h.mb (g0 + 3) e; omega) _, h.mb,
    lt3 ((h.ob.alloc _).kept hg (dj fun g hg => by have := (h.ob.block g hg).1; have := h.bb g hg; omega)), h.bb, lt3 ((h.oi.alloc _).kept hg (dj fun g hg => by have := (h.oi.block g hg).1; have := h.bi g hg; omega)), h.bi,
    lt3 ((h.oo.alloc _).kept hg (dj fun g hg => by have := (h.oo.block g hg).1; have := h.bz g hg; omega)), h.bz, ho.far (p := ⟨g0 + 3, 3, none⟩) nv _, fun g hg2 => ?_,
    ((h.of.alloc _).kept hg h.sp.ne).far (p := ⟨g0 + 3, 3, none⟩) (fun e => by have := h.fb (g0 + 3) e; omega) _, h.fb, h.sp.new hat (h.of.lts (by omega))⟩
  rcases hat with e | e
  · exact h.cb g (by rw [← e]; exact hg2)
  · rw [hg2] at e; injection e with e; omega
theorem S2.pushF {w5 : World} {v1 : Value} {zs : List Int} {cz : Array Value} (h : S2 W wr g0 B3 n a0 a1 msk cls fst bo inn out ms is os cs fs bs) (ho : Ow cI 2 (g0 + 1) w5 v1 zs) (hg : (wr.alloc (.cells cz 2)).grownBy w5 fst.ownBlock) (hb : Below (g0 + 1) wr w5) (hat : v1.ownBlock = fst.ownBlock ∨ v1.ownBlock = some (wr.heap.size + 1)) :
    S2 W (w5.setCell ⟨g0 + 3, 4, none⟩ v1) g0 B3 n a0 a1 msk cls v1 bo inn out ms is os cs zs bs := by
  have hz := h.sz
  have hgb := h.gb
  have ne3 : some (g0 + 3) ≠ fst.ownBlock := fun e => by have := h.fb _ e.symm; omega
  have nv : v1.ownBlock ≠ some (g0 + 3) := fun e => by
    rcases hat with e2 | e2
    · exact ne3 (by rw [← e2, e])
    · rw [e] at e2; injection e2; omega
  have dj : ∀ {v : Value}, (∀ g, v.ownBlock = some g → g ≠ g0 + 2 ∧ g < B3) → v.ownBlock = none ∨ v.ownBlock ≠ fst.ownBlock := fun {v} hv => by
    cases hv2 : v.ownBlock with
    | none => exact .inl rfl
    | some k =>
      refine .inr fun e => ?_
      have h1 := hv k hv2
      have h2 := h.fb k e.symm
      omega
  have lt3 : ∀ {α : Type} {K : Cod α} {e : TypeId} {v : Value} {xs : List α}, Ow K e (g0 + 4) w5 v xs → Ow K e (g0 + 4) (w5.setCell ⟨g0 + 3, 4, none⟩ v1) v xs := fun h => h.setBelow (p := ⟨g0 + 3, 4, none⟩) (by show g0 + 3 < g0 + 4; omega) _
  refine ⟨by simp only [World.setCell, Array.size_modify]; exact Nat.le_trans hz hb.size, hgb, (h.be.trans (hb.mono (by omega))).setCell (p := ⟨g0 + 3, 4, none⟩) (by show g0 ≤ g0 + 3; omega) _, ((h.pb.alloc _).grown hg ne3).set_ 4 v1,
    ((h.om.alloc _).kept hg (dj fun g hg => by have := h.mb g hg; omega)).far (p := ⟨g0 + 3, 4, none⟩) (fun e => by have := h.mb (g0 + 3) e; omega) _, h.mb,
    lt3 ((h.ob.alloc _).kept hg (dj fun g hg => by have := (h.ob.block g hg).1; have := h.bb g hg; omega)), h.bb, lt3 ((h.oi.alloc _).kept hg (dj fun g hg => by have := (h.oi.block g hg).1; have := h.bi g hg; omega)), h.bi,
    lt3 ((h.oo.alloc _).kept hg (dj fun g hg => by have := (h.oo.block g hg).1; have := h.bz g hg; omega)), h.bz, 
    ((h.oc.alloc _).kept hg h.sp.symm.ne).far (p := ⟨g0 + 3, 4, none⟩) (fun e => by have := h.cb (g0 + 3) e; omega) _, h.cb, ho.far (p := ⟨g0 + 3, 4, none⟩) nv _, fun g hg2 => ?_, (h.sp.symm.new hat (h.oc.lts (by omega))).symm⟩
  rcases hat with e | e
  · exact h.fb g (by rw [← e]; exact hg2)
  · rw [hg2] at e; injection e with e; omega
end
theorem q_bit {m i : Nat} (hm : m < 9223372036854775808) (hi : i ≤ 63) (W : World) (n : Nat) :
    Calls Tryz.prog 32 #[.int .i64 m, .int .i64 i] (W.drewN n) fun e w'' => e = .returned (.bool (m.testBit i)) ∧ ∃ q, w'' = W.drewN q :=
  (spec_l01Bit m i _ hm hi).mono fun e w' hh => ⟨hh.1, n, hh.2.symm⟩
/-- are two worlds alike in the first i parts? -/
def alk (ns us : List Nat) (f : Fm) (x z i : Nat) : Bool := (List.range i).all fun q => tb ns us f q x == tb ns us f q z
theorem alk_succ (ns us : List Nat) (f : Fm) (x z i : Nat) : alk ns us f x z (i + 1) = (alk ns us f x z i && (tb ns us f i x == tb ns us f i z)) := by
  unfold alk; rw [List.range_succ, List.all_append]; simp
theorem alk_ky (ns us : List Nat) (f : Fm) (x z i : Nat) : alk ns us f x z i = decide (ky ns us f i z = ky ns us f i x) := by
  rw [Bool.eq_iff_iff, decide_eq_true_eq, ky_iff]
  unfold alk
  rw [List.all_eq_true]
  constructor
  · intro h q hq
    have := h q (List.mem_range.2 hq)
    simp only [beq_iff_eq] at this
    exact this.symm
  · intro h q hq
    rw [h q (List.mem_range.1 hq)]; simp
end Go.Proofs.YtboldkahppdmbaaGreatDoor
