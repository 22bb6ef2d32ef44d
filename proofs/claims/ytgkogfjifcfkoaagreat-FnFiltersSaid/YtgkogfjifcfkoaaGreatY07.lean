/- Joined of several texts. -/
import Derived.Test.YtgkogfjifcfkoaaGreatY06
import Derived.Below
import Derived.Test.YtgkogfjifcfkoaaGreatY05
import Derived.StillTailTactics
import Derived.Deep.RegionLaw
namespace Go.Proofs.YtgkogfjifcfkoaaGreat
/- Over any program: a region whose orders are left open, shown operation by operation and not order by order: each of its first operations is shown from what the operations that it waits for have yielded, in any world that meets a condition; each leaves all that lies in memory as it was. -/
open Go.RowKit
set_option linter.unusedVariables false
section
variable {P : Program} {ops : Array Oper}
/-- what a slot holds -/
def sv (d : Option Tmp) (a : Act) : Value := match d with | some t => a.tmps.getD t undef | none => undef
/-- the block to which a value points -/
def blk1 (v : Value) : List Nat := match v with
  | .pointer (some p) => [p.block]
  | .pointer none => []
  | v => v.ownBlock.toList
def blksA (v : Value) : List Nat := match v with
  | .agg xs => xs.toList.flatMap blk1
  | v => blk1 v
/-- the blocks to which a value points -/
def blks (v : Value) : List Nat := match v with
  | .tuple xs => xs.toList.flatMap blksA
  | v => blksA v
def dstAt (ops : Array Oper) (i : Nat) : Option Tmp := (ops[i]?).bind (·.dst)

/-- how worlds may follow one another -/
structure Steps (R : World → World → Prop) : Prop where
  refl : ∀ w, R w w
  trans : ∀ a b c, R a b → R b c → R a c
  size : ∀ a b, R a b → a.heap.size ≤ b.heap.size
/-- rows of a table: an operation's slot, and the operations that it waits for, with their slots -/
abbrev Tab := List (Option Tmp × List (Nat × Option Tmp))

/-- what each operation's value meets, given those of the operations that it waits for -/
abbrev Fs := List (List Value → Value → World → Prop)
def gF (F : Fs) (i : Nat) : List Value → Value → World → Prop := F.getD i fun _ _ _ => True
/-- it met it in a world, all of which stands yet -/
def gS (R : World → World → Prop) (F : Fs) (i : Nat) (q : List Value) (v : Value) (w : World) : Prop := ∃ X, R X w ∧ gF F i q v X
def sepL (tr : List (Option Nat × List Nat)) : Prop := tr.Pairwise fun x y => x.1 ≠ none → y.1 ≠ none → x.1 ≠ y.1 → ∀ k ∈ x.2, k ∉ y.2


structure RG (R : World → World → Prop) (ops : Array Oper) (T : Tab) (I : World → Prop) (F : Fs) (al : List (Option Nat)) (a0 : Act) (vs : Nat → Value) (listed : Array Bool) (a : Act) (w : World) : Prop where
  inv : I w
  df : a.defers = a0.defers
  sz : a.tmps.size = a0.tmps.size
  out : ∀ k, (∀ i, i < T.length → dstAt ops i ≠ some k) → a.tmps[k]? = a0.tmps[k]?
  at_ : ∀ i, i < T.length → listed.getD i false = true → ∀ d, dstAt ops i = some d → a.tmps[d]? = some (vs i)
  fact : ∀ i r, T[i]? = some r → listed.getD i false = true → gS R F i (r.2.map fun p => vs p.1) (vs i) w
  lt : ∀ i, i < T.length → listed.getD i false = true → al.getD i none ≠ none → ∀ k ∈ blks (vs i), k < w.heap.size
  sep : ∀ i j, i < T.length → j < T.length → listed.getD i false = true → listed.getD j false = true → al.getD i none ≠ none → al.getD j none ≠ none → al.getD i none ≠ al.getD j none → ∀ k ∈ blks (vs i), k ∉ blks (vs j)




theorem sepL.get {tr : List (Option Nat × List Nat)} (h : sepL tr) (i j : Nat) {a b : Nat} {x y : List Nat} (hi : tr[i]? = some (some a, x)) (hj : tr[j]? = some (some b, y)) (hne : a ≠ b) {k : Nat} (hx : k ∈ x) (hy : k ∈ y) : False := by
  have key : ∀ (i j : Nat) (a b : Nat) (x y : List Nat), i < j → tr[i]? = some (some a, x) → tr[j]? = some (some b, y) → a ≠ b → ∀ k ∈ x, k ∉ y := by
    intro i j a b x y hij hi hj hne
    obtain ⟨h1, e1⟩ := List.getElem?_eq_some_iff.1 hi
    obtain ⟨h2, e2⟩ := List.getElem?_eq_some_iff.1 hj
    have := List.pairwise_iff_getElem.1 h i j h1 h2 hij
    rw [e1, e2] at this
    exact this (by simp) (by simp) (by simpa using hne)
  rcases Nat.lt_trichotomy i j with h1 | h1 | h1
  · exact key i j a b x y h1 hi hj hne k hx hy
  · subst h1
    rw [hi] at hj
    simp only [Option.some.injEq, Prod.mk.injEq] at hj
    exact hne hj.1
  · exact key j i b a y x h1 hj hi (Ne.symm hne) k hy hx
end
/- Joined of several texts: 07d, 07e, 07h, 07i. -/
open Go.RowKit
set_option linter.unusedVariables false
set_option linter.unusedSimpArgs false
/- Contracts of chapter 7, of the reference: atoms, forth, back. -/
theorem q_l01Bit {m i : Nat} (hm : m < 9223372036854775808) (hi : i ≤ 63) (W : World) (n : Nat) :
    Calls Tryz.prog 103 #[.int .i64 m, .int .i64 i] (W.drewN n) fun e w'' => e = .returned (.bool (m.testBit i)) ∧ ∃ q, w'' = W.drewN q :=
  (spec_l01Bit m i _ hm hi).mono fun e w' hh => ⟨hh.1, n, hh.2.symm⟩
/- Contracts of chapter 7, of the reference: start and step. -/
/- Contracts of chapter 7, of the reference: bounded. -/
/-- a row of headers that the call owns, each of which reads a list of numbers; no block of them is R -/
def OwI (B : Nat) (R : Option Nat) (w : World) (v : Value) (xss : List (List Int)) : Prop :=
  ∃ hs : List Hd, Ow cH 27 B w v hs ∧ (∀ r, R = some r → v.ownBlock ≠ some r ∧ r < w.heap.size) ∧ hs.length = xss.length ∧
    ∀ i (a : i < hs.length) (b : i < xss.length), Sl cI w hs[i].val xss[i] ∧ (hs[i].val.ownBlock = none ∨ (hs[i].val.ownBlock ≠ v.ownBlock ∧ ∀ k, hs[i].val.ownBlock = some k → k < w.heap.size ∧ R ≠ some k))
theorem OwI.sl2 {B : Nat} {R : Option Nat} {w : World} {v : Value} {xss : List (List Int)} (h : OwI B R w v xss) : Sl2 cI w v xss := by
  obtain ⟨hs, h1, -, h2, h3⟩ := h
  exact ⟨hs, h1.sl, h2, fun i a b => (h3 i a b).1⟩
theorem OwI.below {B : Nat} {R : Option Nat} {w w' : World} {v : Value} {xss : List (List Int)} (h : OwI B R w v xss) (hb : Below w.heap.size w w') : OwI B R w' v xss := by
  obtain ⟨hs, h1, h0, h2, h3⟩ := h
  refine ⟨hs, h1.below hb, fun r hr => ⟨(h0 r hr).1, Nat.lt_of_lt_of_le (h0 r hr).2 hb.size⟩, h2, fun i a b => ⟨(h3 i a b).1.below hb, ?_⟩⟩
  rcases (h3 i a b).2 with h | ⟨h, k⟩
  · exact .inl h
  · exact .inr ⟨h, fun j hj => ⟨Nat.lt_of_lt_of_le (k j hj).1 hb.size, (k j hj).2⟩⟩
theorem OwI.one {B B2 : Nat} {w : World} {A : Option Addr} {n c : Nat} {xs : List Int} (hu : Ow cI 2 B2 w (.slice A n c) xs) (hB : B ≤ w.heap.size) :
    OwI B none (w.alloc (.cells #[.slice A n c] 27)) (.slice (some ⟨w.heap.size, 0, none⟩) 1 1) [xs] := by
  refine ⟨[⟨A, n, c⟩], Ow.lit (K := cH) [⟨A, n, c⟩] rfl rfl hB, fun r hr => (by cases hr), rfl, fun i a b => ?_⟩
  have hi : i = 0 := by simp at a; omega
  subst hi
  refine ⟨hu.sl.alloc _, ?_⟩
  show (Value.slice A n c).ownBlock = none ∨ ((Value.slice A n c).ownBlock ≠ _ ∧ ∀ k, (Value.slice A n c).ownBlock = some k → _)
  cases hq : (Value.slice A n c).ownBlock with
  | none => exact .inl rfl
  | some k =>
    have := (hu.block k hq).2
    refine .inr ⟨?_, fun j hj => ?_⟩
    · intro e
      have e' : k = w.heap.size := by injection e
      omega
    · have e' : k = j := by injection hj
      exact ⟨by simp; omega, by simp⟩
theorem OwI.push {B : Nat} {R : Option Nat} {w : World} {v : Value} {xss : List (List Int)} {A : Option Addr} {n c : Nat} {xs : List Int} {B2 : Nat}
    (h : OwI B R w v xss) (hu : Ow cI 2 B2 w (.slice A n c) xs) (hB : ∀ k, v.ownBlock = some k → k < B2) (hR : ∀ r, R = some r → r < B2) :
    ∃ hs : List Hd, Ow cH 27 B w v hs ∧ hs.length = xss.length ∧
      ∀ w' v', Ow cH 27 B w' v' (hs ++ [⟨A, n, c⟩]) → (w.alloc (.cells #[.slice A n c] 27)).grownBy w' v.ownBlock →
        (v'.ownBlock = v.ownBlock ∨ v'.ownBlock = some (w.heap.size + 1)) → OwI B R w' v' (xss ++ [xs]) := by
  obtain ⟨hs, h1, h0, h2, h3⟩ := h
  have hlt : ∀ k, (Value.slice A n c).ownBlock = some k → B2 ≤ k ∧ k < w.heap.size := hu.block
  refine ⟨hs, h1, h2, fun w' v' ho hg hat => ?_⟩
  have hsz : w.heap.size + 1 ≤ w'.heap.size := by have := hg.size; simp at this; omega
  have key : ∀ (u : Value) (ys : List Int), Sl cI w u ys → (u.ownBlock = none ∨ (u.ownBlock ≠ v.ownBlock ∧ ∀ k, u.ownBlock = some k → k < w.heap.size ∧ R ≠ some k)) →
      Sl cI w' u ys ∧ (u.ownBlock = none ∨ (u.ownBlock ≠ v'.ownBlock ∧ ∀ k, u.ownBlock = some k → k < w'.heap.size ∧ R ≠ some k)) := by
    intro u ys hu hn
    refine ⟨(hu.alloc _).grown hg (hn.imp id And.left), ?_⟩
    rcases hn with hn | ⟨hn, hk⟩
    · exact .inl hn
    · refine .inr ⟨?_, fun k e => ⟨by have := (hk k e).1; omega, (hk k e).2⟩⟩
      rcases hat with e | e
      · rw [e]; exact hn
      · rw [e]; intro e2; have := (hk _ e2).1; omega
  refine ⟨hs ++ [⟨A, n, c⟩], ho, fun r hr => ⟨?_, by have := (h0 r hr).2; omega⟩, by simp [h2], fun i a b => ?_⟩
  · rcases hat with e | e
    · rw [e]; exact (h0 r hr).1
    · rw [e]; intro e2; injection e2 with e2; have := (h0 r hr).2; omega
  by_cases hi : i < hs.length
  · rw [List.getElem_append_left hi, List.getElem_append_left (by omega)]
    exact key _ _ (h3 i hi (by omega)).1 (h3 i hi (by omega)).2
  · have e : i = hs.length := by simp at a; omega
    subst e
    have e2 : (xss ++ [xs])[hs.length] = xs := by
      rw [List.getElem_append_right (by omega)]; simp [h2]
    rw [e2]
    have e3 : (hs ++ [(⟨A, n, c⟩ : Hd)])[hs.length] = ⟨A, n, c⟩ := by simp
    rw [e3]
    refine key _ _ hu.sl ?_
    show (Value.slice A n c).ownBlock = none ∨ ((Value.slice A n c).ownBlock ≠ _ ∧ ∀ k, (Value.slice A n c).ownBlock = some k → _)
    cases hq : (Value.slice A n c).ownBlock with
    | none => exact .inl rfl
    | some k =>
      have hk := hlt k hq
      refine .inr ⟨?_, fun j hj => ?_⟩
      · intro e
        have := hB k e.symm
        omega
      · have e' : k = j := by injection hj
        subst e'
        exact ⟨hk.2, fun e => by have := hR k e; omega⟩
/- Contracts of chapter 7, of the program: bounded, bisimilar. -/
theorem OwI.form {B : Nat} {R : Option Nat} {w : World} {v : Value} {xss : List (List Int)} (h : OwI B R w v xss) (hn : 0 < xss.length) : ∃ g c, v = .slice (some ⟨g, 0, none⟩) xss.length c := by
  obtain ⟨hs, h1, -, h2, -⟩ := h
  obtain ⟨g, c, hv, -⟩ := h1.form (by omega)
  exact ⟨g, c, by rw [hv, h2]⟩
theorem OwI.at_ {B : Nat} {R : Option Nat} {w : World} {g n c : Nat} {xss : List (List Int)} (h : OwI B R w (.slice (some ⟨g, 0, none⟩) n c) xss) {k : Nat} (hk : k < xss.length) :
    ∃ A m d, w.cell? ⟨g, k, none⟩ = some (.slice A m d) ∧ Sl cI w (.slice A m d) xss[k] ∧ g < w.heap.size := by
  obtain ⟨b, o, A, m, d, hA, hb, hc, hs⟩ := h.sl2.at_ hk
  injection hA with hA
  injection hA with e1 e2
  subst e1
  subst e2
  exact ⟨A, m, d, by simpa using hc, hs, hb⟩
end Go.Proofs.YtgkogfjifcfkoaaGreat
