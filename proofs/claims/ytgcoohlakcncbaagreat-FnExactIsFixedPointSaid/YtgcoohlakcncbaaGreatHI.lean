/- Joined of several texts: 07d, 07e, 07h, 07i. -/
import Derived.Test.YtgcoohlakcncbaaGreatSA
import Derived.Test.YtgcoohlakcncbaaGreatSB
import Derived.StillTailTactics
import Derived.Deep.RegionLaw
namespace Go.Proofs.YtgcoohlakcncbaaGreat
open Go.RowKit
set_option linter.unusedVariables false
set_option linter.unusedSimpArgs false
/- Contracts of chapter 7, of the reference: atoms, forth, back. -/
theorem q_l01Bit {m i : Nat} (hm : m < 9223372036854775808) (hi : i ≤ 63) (W : World) (n : Nat) :
    Calls Tryz.prog 268 #[.int .i64 m, .int .i64 i] (W.drewN n) fun e w'' => e = .returned (.bool (m.testBit i)) ∧ ∃ q, w'' = W.drewN q :=
  (spec_l01Bit m i _ hm hi).mono fun e w' hh => ⟨hh.1, n, hh.2.symm⟩
/- Contracts of chapter 7, of the reference: start and step. -/
theorem lnk_succ (n k : Nat) (p : Nat → Nat → Bool) : li (lnk (n + 1) k p) = li (lnk n k p) ++ [((msk (p n) k : Nat) : Int)] := by
  unfold lnk li
  rw [List.range_succ, List.map_append, List.map_append]
  rfl
/- Contracts of chapter 7, of the reference: bounded. -/
/-- a row of headers that the call owns, each of which reads a list of numbers; no block of them is R -/
def OwI (B : Nat) (R : Option Nat) (w : World) (v : Value) (xss : List (List Int)) : Prop :=
  ∃ hs : List Hd, Ow cH 50 B w v hs ∧ (∀ r, R = some r → v.ownBlock ≠ some r ∧ r < w.heap.size) ∧ hs.length = xss.length ∧
    ∀ i (a : i < hs.length) (b : i < xss.length), Sl cI w hs[i].val xss[i] ∧ (hs[i].val.ownBlock = none ∨ (hs[i].val.ownBlock ≠ v.ownBlock ∧ ∀ k, hs[i].val.ownBlock = some k → k < w.heap.size ∧ R ≠ some k))
theorem OwI.sl2 {B : Nat} {R : Option Nat} {w : World} {v : Value} {xss : List (List Int)} (h : OwI B R w v xss) : Sl2 cI w v xss := by
  obtain ⟨hs, h1, -, h2, h3⟩ := h
  exact ⟨hs, h1.sl, h2, fun i a b => (h3 i a b).1⟩
theorem OwI.below {B : Nat} {R : Option Nat} {w w' : World} {v : Value} {xss : List (List Int)} (h : OwI B R w v xss) (hb : Below w.heap.size w w') : OwI B R w' v xss := by
  obtain ⟨hs, h1, h0, h2, h3⟩ := h
  refine ⟨hs, h1.below hb, fun r hr => ⟨(h0 r hr).1, Nat.lt_of_lt_of_le (h0 r hr).2 hb.size⟩, h2, fun i a b => ⟨(h3 i a b).1.below hb, ?_⟩⟩
  rcases (h3 i a b).2 with h | ⟨h, k⟩
  · exact .inl h
  · exact .inr ⟨h, fun j hj => ⟨Nat.lt_of_lt_of_le (k j hj).1 hb.size, (k j hj).2⟩⟩
theorem OwI.one {B B2 : Nat} {w : World} {A : Option Addr} {n c : Nat} {xs : List Int} (hu : Ow cI 2 B2 w (.slice A n c) xs) (hB : B ≤ w.heap.size) :
    OwI B none (w.alloc (.cells #[.slice A n c] 50)) (.slice (some ⟨w.heap.size, 0, none⟩) 1 1) [xs] := by
  refine ⟨[⟨A, n, c⟩], Ow.lit (K := cH) [⟨A, n, c⟩] rfl rfl hB, fun r hr => (by cases hr), rfl, fun i a b => ?_⟩
  have hi : i = 0 := by simp at a; omega
  subst hi
  refine ⟨hu.sl.alloc _, ?_⟩
  show (Value.slice A n c).ownBlock = none ∨ ((Value.slice A n c).ownBlock ≠ _ ∧ ∀ k, (Value.slice A n c).ownBlock = some k → _)
  cases hq : (Value.slice A n c).ownBlock with
  | none => exact .inl rfl
  | some k =>
    have := (hu.block k hq).2
    refine .inr ⟨?_, fun j hj => ?_⟩
    · intro e
      have e' : k = w.heap.size := by injection e
      omega
    · have e' : k = j := by injection hj
      exact ⟨by simp; omega, by simp⟩
/-- the block R is made behind -/
theorem OwI.mark {B : Nat} {w w' : World} {v : Value} {xss : List (List Int)} (h : OwI B none w v xss) (hb : Below w.heap.size w w') (r : Nat) (hr : w.heap.size ≤ r) (hr2 : r < w'.heap.size) : OwI B (some r) w' v xss := by
  obtain ⟨hs, h1, h0, h2, h3⟩ := h
  have hv := h1.block
  refine ⟨hs, h1.below hb, fun r' hr' => ?_, h2, fun i a b => ⟨(h3 i a b).1.below hb, ?_⟩⟩
  · injection hr' with e
    subst e
    refine ⟨fun e => ?_, hr2⟩
    have := (hv _ e).2
    omega
  · rcases (h3 i a b).2 with h | ⟨h, k⟩
    · exact .inl h
    · refine .inr ⟨h, fun j hj => ⟨Nat.lt_of_lt_of_le (k j hj).1 hb.size, fun e => ?_⟩⟩
      injection e with e
      have := (k j hj).1
      omega
theorem OwI.push {B : Nat} {R : Option Nat} {w : World} {v : Value} {xss : List (List Int)} {A : Option Addr} {n c : Nat} {xs : List Int} {B2 : Nat}
    (h : OwI B R w v xss) (hu : Ow cI 2 B2 w (.slice A n c) xs) (hB : ∀ k, v.ownBlock = some k → k < B2) (hR : ∀ r, R = some r → r < B2) :
    ∃ hs : List Hd, Ow cH 50 B w v hs ∧ hs.length = xss.length ∧
      ∀ w' v', Ow cH 50 B w' v' (hs ++ [⟨A, n, c⟩]) → (w.alloc (.cells #[.slice A n c] 50)).grownBy w' v.ownBlock →
        (v'.ownBlock = v.ownBlock ∨ v'.ownBlock = some (w.heap.size + 1)) → OwI B R w' v' (xss ++ [xs]) := by
  obtain ⟨hs, h1, h0, h2, h3⟩ := h
  have hlt : ∀ k, (Value.slice A n c).ownBlock = some k → B2 ≤ k ∧ k < w.heap.size := hu.block
  refine ⟨hs, h1, h2, fun w' v' ho hg hat => ?_⟩
  have hsz : w.heap.size + 1 ≤ w'.heap.size := by have := hg.size; simp at this; omega
  have key : ∀ (u : Value) (ys : List Int), Sl cI w u ys → (u.ownBlock = none ∨ (u.ownBlock ≠ v.ownBlock ∧ ∀ k, u.ownBlock = some k → k < w.heap.size ∧ R ≠ some k)) →
      Sl cI w' u ys ∧ (u.ownBlock = none ∨ (u.ownBlock ≠ v'.ownBlock ∧ ∀ k, u.ownBlock = some k → k < w'.heap.size ∧ R ≠ some k)) := by
    intro u ys hu hn
    refine ⟨(hu.alloc _).grown hg (hn.imp id And.left), ?_⟩
    rcases hn with hn | ⟨hn, hk⟩
    · exact .inl hn
    · refine .inr ⟨?_, fun k e => ⟨by have := (hk k e).1; omega, (hk k e).2⟩⟩
      rcases hat with e | e
      · rw [e]; exact hn
      · rw [e]; intro e2; have := (hk _ e2).1; omega
  refine ⟨hs ++ [⟨A, n, c⟩], ho, fun r hr => ⟨?_, by have := (h0 r hr).2; omega⟩, by simp [h2], fun i a b => ?_⟩
  · rcases hat with e | e
    · rw [e]; exact (h0 r hr).1
    · rw [e]; intro e2; injection e2 with e2; have := (h0 r hr).2; omega
  by_cases hi : i < hs.length
  · rw [List.getElem_append_left hi, List.getElem_append_left (by omega)]
    exact key _ _ (h3 i hi (by omega)).1 (h3 i hi (by omega)).2
  · have e : i = hs.length := by simp at a; omega
    subst e
    have e2 : (xss ++ [xs])[hs.length] = xs := by
      rw [List.getElem_append_right (by omega)]; simp [h2]
    rw [e2]
    have e3 : (hs ++ [(⟨A, n, c⟩ : Hd)])[hs.length] = ⟨A, n, c⟩ := by simp
    rw [e3]
    refine key _ _ hu.sl ?_
    show (Value.slice A n c).ownBlock = none ∨ ((Value.slice A n c).ownBlock ≠ _ ∧ ∀ k, (Value.slice A n c).ownBlock = some k → _)
    cases hq : (Value.slice A n c).ownBlock with
    | none => exact .inl rfl
    | some k =>
      have hk := hlt k hq
      refine .inr ⟨?_, fun j hj => ?_⟩
      · intro e
        have := hB k e.symm
        omega
      · have e' : k = j := by injection hj
        subst e'
        exact ⟨hk.2, fun e => by have := hR k e; omega⟩
def bdL (ns us ks ts : List Nat) (K : Nat) : List (List Int) := (List.range (K + 1)).map fun i => li (bnd ns us ks ts i)
theorem bdL_length (ns us ks ts : List Nat) (K : Nat) : (bdL ns us ks ts K).length = K + 1 := by simp [bdL]
theorem bdL_succ (ns us ks ts : List Nat) (K : Nat) : bdL ns us ks ts (K + 1) = bdL ns us ks ts K ++ [li (bnd ns us ks ts (K + 1))] := by
  unfold bdL
  rw [List.range_succ (n := K + 1), List.map_append]
  rfl
theorem bdL_get (ns us ks ts : List Nat) (K i : Nat) (h : i < (bdL ns us ks ts K).length) : (bdL ns us ks ts K)[i] = li (bnd ns us ks ts i) := by
  simp [bdL]
theorem bnd_lt8 {ns us ks ts : List Nat} (h : ks.length ≤ 8) (k : Nat) : ∀ x ∈ bnd ns us ks ts k, x < 2 ^ 8 := fun x hx =>
  Nat.lt_of_lt_of_le (bnd_lt ns us ks ts k x hx) (Nat.pow_le_pow_right (by decide) h)
/- Contracts of chapter 7, of the program: bounded, bisimilar. -/
theorem OwI.setR {B R : Nat} {w : World} {v : Value} {xss : List (List Int)} (h : OwI B (some R) w v xss) (i : Nat) (u : Value) : OwI B (some R) (w.setCell ⟨R, i, none⟩ u) v xss := by
  obtain ⟨hs, h1, h0, h2, h3⟩ := h
  have hsz : (w.setCell ⟨R, i, none⟩ u).heap.size = w.heap.size := by simp
  refine ⟨hs, h1.far (h0 R rfl).1 u, fun r hr => ⟨(h0 r hr).1, by rw [hsz]; exact (h0 r hr).2⟩, h2, fun i a b => ⟨(h3 i a b).1.grown (grown_set (World.grownBy.refl w (some R)) rfl _ _) ?_, ?_⟩⟩
  · rcases (h3 i a b).2 with h | ⟨-, k⟩
    · exact .inl h
    · refine .inr fun e => ?_
      exact (k R e).2 rfl
  · rcases (h3 i a b).2 with h | ⟨h, k⟩
    · exact .inl h
    · exact .inr ⟨h, fun j hj => by rw [hsz]; exact k j hj⟩
theorem OwI.form {B : Nat} {R : Option Nat} {w : World} {v : Value} {xss : List (List Int)} (h : OwI B R w v xss) (hn : 0 < xss.length) : ∃ g c, v = .slice (some ⟨g, 0, none⟩) xss.length c := by
  obtain ⟨hs, h1, -, h2, -⟩ := h
  obtain ⟨g, c, hv, -⟩ := h1.form (by omega)
  exact ⟨g, c, by rw [hv, h2]⟩
theorem OwI.at_ {B : Nat} {R : Option Nat} {w : World} {g n c : Nat} {xss : List (List Int)} (h : OwI B R w (.slice (some ⟨g, 0, none⟩) n c) xss) {k : Nat} (hk : k < xss.length) :
    ∃ A m d, w.cell? ⟨g, k, none⟩ = some (.slice A m d) ∧ Sl cI w (.slice A m d) xss[k] ∧ g < w.heap.size := by
  obtain ⟨b, o, A, m, d, hA, hb, hc, hs⟩ := h.sl2.at_ hk
  injection hA with hA
  injection hA with e1 e2
  subst e1
  subst e2
  exact ⟨A, m, d, by simpa using hc, hs, hb⟩
end Go.Proofs.YtgcoohlakcncbaaGreat
