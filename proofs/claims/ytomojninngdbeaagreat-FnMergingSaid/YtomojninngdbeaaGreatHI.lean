/- Joined of several texts: 07d, 07e, 07h, 07i. -/
import Derived.Test.YtomojninngdbeaaGreatSA
import Derived.Test.YtomojninngdbeaaGreatSB
import Derived.StillTailTactics
import Derived.Deep.RegionLaw
namespace Go.Proofs.YtomojninngdbeaaGreat
open Go.RowKit
set_option linter.unusedVariables false
set_option linter.unusedSimpArgs false
/- Contracts of chapter 7, of the reference: atoms, forth, back. -/
theorem q_l01Bit {m i : Nat} (hm : m < 9223372036854775808) (hi : i ≤ 63) (W : World) (n : Nat) :
    Calls Tryz.prog 51 #[.int .i64 m, .int .i64 i] (W.drewN n) fun e w'' => e = .returned (.bool (m.testBit i)) ∧ ∃ q, w'' = W.drewN q :=
  (spec_l01Bit m i _ hm hi).mono fun e w' hh => ⟨hh.1, n, hh.2.symm⟩
/- Contracts of chapter 7, of the reference: start and step. -/
theorem lnk_succ (n k : Nat) (p : Nat → Nat → Bool) : li (lnk (n + 1) k p) = li (lnk n k p) ++ [((msk (p n) k : Nat) : Int)] := by
  unfold lnk li
  rw [List.range_succ, List.map_append, List.map_append]
  rfl
/- Contracts of chapter 7, of the reference: bounded. -/
/-- a row of headers that the call owns, each of which reads a list of numbers; no block of them is R -/
def OwI (B : Nat) (R : Option Nat) (w : World) (v : Value) (xss : List (List Int)) : Prop :=
  ∃ hs : List Hd, Ow cH 24 B w v hs ∧ (∀ r, R = some r → v.ownBlock ≠ some r ∧ r < w.heap.size) ∧ hs.length = xss.length ∧
    ∀ i (a : i < hs.length) (b : i < xss.length), Sl cI w hs[i].val xss[i] ∧ (hs[i].val.ownBlock = none ∨ (hs[i].val.ownBlock ≠ v.ownBlock ∧ ∀ k, hs[i].val.ownBlock = some k → k < w.heap.size ∧ R ≠ some k))
theorem OwI.sl2 {B : Nat} {R : Option Nat} {w : World} {v : Value} {xss : List (List Int)} (h : OwI B R w v xss) : Sl2 cI w v xss := by
  obtain ⟨hs, h1, -, h2, h3⟩ := h
  exact ⟨hs, h1.sl, h2, fun i a b => (h3 i a b).1⟩
theorem OwI.below {B : Nat} {R : Option Nat} {w w' : World} {v : Value} {xss : List (List Int)} (h : OwI B R w v xss) (hb : Below w.heap.size w w') : OwI B R w' v xss := by
  obtain ⟨hs, h1, h0, h2, h3⟩ := h
  refine ⟨hs, h1.below hb, fun r hr => ⟨(h0 r hr).1, Nat.lt_of_lt_of_le (h0 r hr).2 hb.size⟩, h2, fun i a b => ⟨(h3 i a b).1.below hb, ?_⟩⟩
  rcases (h3 i a b).2 with h | ⟨h, k⟩
  · exact .inl h
  · exact .inr ⟨h, fun j hj => ⟨Nat.lt_of_lt_of_le (k j hj).1 hb.size, (k j hj).2⟩⟩
theorem OwI.one {B B2 : Nat} {w : World} {A : Option Addr} {n c : Nat} {xs : List Int} (hu : Ow cI 2 B2 w (.slice A n c) xs) (hB : B ≤ w.heap.size) :
    OwI B none (w.alloc (.cells #[.slice A n c] 24)) (.slice (some ⟨w.heap.size, 0, none⟩) 1 1) [xs] := by
  refine ⟨[⟨A, n, c⟩], Ow.lit (K := cH) [⟨A, n, c⟩] rfl rfl hB, fun r hr => (by cases hr), rfl, fun i a b => ?_⟩
  have hi : i = 0 := by simp at a; omega
  subst hi
  refine ⟨hu.sl.alloc _, ?_⟩
  show (Value.slice A n c).ownBlock = none ∨ ((Value.slice A n c).ownBlock ≠ _ ∧ ∀ k, (Value.slice A n c).ownBlock = some k → _)
  cases hq : (Value.slice A n c).ownBlock with
  | none => exact .inl rfl
  | some k =>
    have := (hu.block k hq).2
    refine .inr ⟨?_, fun j hj => ?_⟩
    · intro e
      have e' : k = w.heap.size := by injection e
      omega
    · have e' : k = j := by injection hj
      exact ⟨by simp; omega, by simp⟩
/-- the block R is made behind -/
theorem OwI.mark {B : Nat} {w w' : World} {v : Value} {xss : List (List Int)} (h : OwI B none w v xss) (hb : Below w.heap.size w w') (r : Nat) (hr : w.heap.size ≤ r) (hr2 : r < w'.heap.size) : OwI B (some r) w' v xss := by
  obtain ⟨hs, h1, h0, h2, h3⟩ := h
  have hv := h1.block
  refine ⟨hs, h1.below hb, fun r' hr' => ?_, h2, fun i a b => ⟨(h3 i a b).1.below hb, ?_⟩⟩
  · injection hr' with e
    subst e
    refine ⟨fun e => ?_, hr2⟩
    have := (hv _ e).2
    omega
  · rcases (h3 i a b).2 with h | ⟨h, k⟩
    · exact .inl h
    · refine .inr ⟨h, fun j hj => ⟨Nat.lt_of_lt_of_le (k j hj).1 hb.size, fun e => ?_⟩⟩
      injection e with e
      have := (k j hj).1
      omega
theorem OwI.push {B : Nat} {R : Option Nat} {w : World} {v : Value} {xss : List (List Int)} {A : Option Addr} {n c : Nat} {xs : List Int} {B2 : Nat}
    (h : OwI B R w v xss) (hu : Ow cI 2 B2 w (.slice A n c) xs) (hB : ∀ k, v.ownBlock = some k → k < B2) (hR : ∀ r, R = some r → r < B2) :
    ∃ hs : List Hd, Ow cH 24 B w v hs ∧ hs.length = xss.length ∧
      ∀ w' v', Ow cH 24 B w' v' (hs ++ [⟨A, n, c⟩]) → (w.alloc (.cells #[.slice A n c] 24)).grownBy w' v.ownBlock →
        (v'.ownBlock = v.ownBlock ∨ v'.ownBlock = some (w.heap.size + 1)) → OwI B R w' v' (xss ++ [xs]) := by
  obtain ⟨hs, h1, h0, h2, h3⟩ := h
  have hlt : ∀ k, (Value.slice A n c).ownBlock = some k → B2 ≤ k ∧ k < w.heap.size := hu.block
  refine ⟨hs, h1, h2, fun w' v' ho hg hat => ?_⟩
  have hsz : w.heap.size + 1 ≤ w'.heap.size := by have := hg.size; simp at this; omega
  have key : ∀ (u : Value) (ys : List Int), Sl cI w u ys → (u.ownBlock = none ∨ (u.ownBlock ≠ v.ownBlock ∧ ∀ k, u.ownBlock = some k → k < w.heap.size ∧ R ≠ some k)) →
      Sl cI w' u ys ∧ (u.ownBlock = none ∨ (u.ownBlock ≠ v'.ownBlock ∧ ∀ k, u.ownBlock = some k → k < w'.heap.size ∧ R ≠ some k)) := by
    intro u ys hu hn
    refine ⟨(hu.alloc _).grown hg (hn.imp id And.left), ?_⟩
    rcases hn with hn | ⟨hn, hk⟩
    · exact .inl hn
    · refine .inr ⟨?_, fun k e => ⟨by have := (hk k e).1; omega, (hk k e).2⟩⟩
      rcases hat with e | e
      · rw [e]; exact hn
      · rw [e]; intro e2; have := (hk _ e2).1; omega
  refine ⟨hs ++ [⟨A, n, c⟩], ho, fun r hr => ⟨?_, by have := (h0 r hr).2; omega⟩, by simp [h2], fun i a b => ?_⟩
  · rcases hat with e | e
    · rw [e]; exact (h0 r hr).1
    · rw [e]; intro e2; injection e2 with e2; have := (h0 r hr).2; omega
  by_cases hi : i < hs.length
  · rw [List.getElem_append_left hi, List.getElem_append_left (by omega)]
    exact key _ _ (h3 i hi (by omega)).1 (h3 i hi (by omega)).2
  · have e : i = hs.length := by simp at a; omega
    subst e
    have e2 : (xss ++ [xs])[hs.length] = xs := by
      rw [List.getElem_append_right (by omega)]; simp [h2]
    rw [e2]
    have e3 : (hs ++ [(⟨A, n, c⟩ : Hd)])[hs.length] = ⟨A, n, c⟩ := by simp
    rw [e3]
    refine key _ _ hu.sl ?_
    show (Value.slice A n c).ownBlock = none ∨ ((Value.slice A n c).ownBlock ≠ _ ∧ ∀ k, (Value.slice A n c).ownBlock = some k → _)
    cases hq : (Value.slice A n c).ownBlock with
    | none => exact .inl rfl
    | some k =>
      have hk := hlt k hq
      refine .inr ⟨?_, fun j hj => ?_⟩
      · intro e
        have := hB k e.symm
        omega
      · have e' : k = j := by injection hj
        subst e'
        exact ⟨hk.2, fun e => by have := hR k e; omega⟩
def bdL (ns us ks ts : List Nat) (K : Nat) : List (List Int) := (List.range (K + 1)).map fun i => li (bnd ns us ks ts i)
theorem bdL_length (ns us ks ts : List Nat) (K : Nat) : (bdL ns us ks ts K).length = K + 1 := by simp [bdL]
theorem bdL_succ (ns us ks ts : List Nat) (K : Nat) : bdL ns us ks ts (K + 1) = bdL ns us ks ts K ++ [li (bnd ns us ks ts (K + 1))] := by
  unfold bdL
  rw [List.range_succ (n := K + 1), List.map_append]
  rfl
theorem bdL_get (ns us ks ts : List Nat) (K i : Nat) (h : i < (bdL ns us ks ts K).length) : (bdL ns us ks ts K)[i] = li (bnd ns us ks ts i) := by
  simp [bdL]
theorem bnd_lt8 {ns us ks ts : List Nat} (h : ks.length ≤ 8) (k : Nat) : ∀ x ∈ bnd ns us ks ts k, x < 2 ^ 8 := fun x hx =>
  Nat.lt_of_lt_of_le (bnd_lt ns us ks ts k x hx) (Nat.pow_le_pow_right (by decide) h)
/- Contracts of chapter 7, of the program: bounded, bisimilar. -/
theorem OwI.setR {B R : Nat} {w : World} {v : Value} {xss : List (List Int)} (h : OwI B (some R) w v xss) (i : Nat) (u : Value) : OwI B (some R) (w.setCell ⟨R, i, none⟩ u) v xss := by
  obtain ⟨hs, h1, h0, h2, h3⟩ := h
  have hsz : (w.setCell ⟨R, i, none⟩ u).heap.size = w.heap.size := by simp
  refine ⟨hs, h1.far (h0 R rfl).1 u, fun r hr => ⟨(h0 r hr).1, by rw [hsz]; exact (h0 r hr).2⟩, h2, fun i a b => ⟨(h3 i a b).1.grown (grown_set (World.grownBy.refl w (some R)) rfl _ _) ?_, ?_⟩⟩
  · rcases (h3 i a b).2 with h | ⟨-, k⟩
    · exact .inl h
    · refine .inr fun e => ?_
      exact (k R e).2 rfl
  · rcases (h3 i a b).2 with h | ⟨h, k⟩
    · exact .inl h
    · exact .inr ⟨h, fun j hj => by rw [hsz]; exact k j hj⟩
theorem OwI.form {B : Nat} {R : Option Nat} {w : World} {v : Value} {xss : List (List Int)} (h : OwI B R w v xss) (hn : 0 < xss.length) : ∃ g c, v = .slice (some ⟨g, 0, none⟩) xss.length c := by
  obtain ⟨hs, h1, -, h2, -⟩ := h
  obtain ⟨g, c, hv, -⟩ := h1.form (by omega)
  exact ⟨g, c, by rw [hv, h2]⟩
theorem OwI.at_ {B : Nat} {R : Option Nat} {w : World} {g n c : Nat} {xss : List (List Int)} (h : OwI B R w (.slice (some ⟨g, 0, none⟩) n c) xss) {k : Nat} (hk : k < xss.length) :
    ∃ A m d, w.cell? ⟨g, k, none⟩ = some (.slice A m d) ∧ Sl cI w (.slice A m d) xss[k] ∧ g < w.heap.size := by
  obtain ⟨b, o, A, m, d, hA, hb, hc, hs⟩ := h.sl2.at_ hk
  injection hA with hA
  injection hA with e1 e2
  subst e1
  subst e2
  exact ⟨A, m, d, by simpa using hc, hs, hb⟩
theorem link_bounded_1 (ns us ks ts : List Nat) (A0 A1 B0 B1 : Option Addr) (c0 c1 d0 d1 : Nat) (p q : Nat) (w : World) (hp : Blk w p 50 #[.int .i64 ns.length, .slice A0 ns.length c0, .slice A1 6 c1]) (hq : Blk w q 50 #[.int .i64 ks.length, .slice B0 ks.length d0, .slice B1 6 d1])
    (hm : Mdl w (.slice A0 ns.length c0) (.slice A1 6 c1) ns us) (hm2 : Mdl w (.slice B0 ks.length d0) (.slice B1 6 d1) ks ts) (h1 : MdN ns us) (h2 : MdN ks ts) :
    Calls Tryz.prog 118 #[.agg #[.int .i64 ns.length, .slice A0 ns.length c0, .slice A1 6 c1], .agg #[.int .i64 ks.length, .slice B0 ks.length d0, .slice B1 6 d1], .func (.func 119) #[] #[.pointer (some ⟨p, 0, none⟩), .pointer (some ⟨q, 0, none⟩)]] w
      fun e w' => ∃ A c, e = .returned (.slice A ns.length c) ∧ Ow cI 2 w.heap.size w' (.slice A ns.length c) (li (bnd ns us ks ts 0)) ∧ Below w.heap.size w w' :=
  impl_linkOf ns.length ks.length A0 A1 B0 B1 ns.length 6 ks.length 6 c0 c1 d0 d1 119 #[.pointer (some ⟨p, 0, none⟩), .pointer (some ⟨q, 0, none⟩)] (atm us ts) w h1.r.1 h2.r.1 en_bounded_1 (fun W hW x y hx hy => by
    rw [show (#[Value.int .i64 (x : Int), .int .i64 (y : Int)] ++ #[Value.pointer (some ⟨p, 0, none⟩), .pointer (some ⟨q, 0, none⟩)] : Array Value) = #[.int .i64 x, .int .i64 y, .pointer (some ⟨p, 0, none⟩), .pointer (some ⟨q, 0, none⟩)] from rfl]
    have h8 := h1.r.1
    have hk8 := h2.r.1
    exact impl_bounded_1 ns.length ks.length A0 A1 B0 B1 ns.length ks.length c0 c1 d0 d1 us ts x y p q W (hp.below hW hp.lt) (hq.below hW hq.lt) (hm.u.below hW) (hm2.u.below hW) h1.l h2.l h1.u256 h2.u256 (by omega) (by omega))
theorem link_bounded_2 (ns us ks ts : List Nat) (A0 A1 B0 B1 C0 C1 : Option Addr) (c0 c1 d0 d1 e0 e1 L C : Nat) (p q r l g j : Nat) (w : World) (hp : Blk w p 50 #[.int .i64 ns.length, .slice A0 ns.length c0, .slice A1 6 c1]) (hq : Blk w q 50 #[.int .i64 ks.length, .slice B0 ks.length d0, .slice B1 6 d1])
    (hm : Mdl w (.slice A0 ns.length c0) (.slice A1 6 c1) ns us) (hm2 : Mdl w (.slice B0 ks.length d0) (.slice B1 6 d1) ks ts) (h1 : MdN ns us) (h2 : MdN ks ts)
    (hr : w.cell? ⟨r, 0, none⟩ = some (.slice (some ⟨g, 0, none⟩) L C)) (hL : 0 < L) (hg : w.cell? ⟨g, 0, none⟩ = some (.slice C0 ns.length e0)) (hs0 : Sl cI w (.slice C0 ns.length e0) (li (bnd ns us ks ts 0)))
    (hlc : w.cell? ⟨l, 0, none⟩ = some (.slice C1 ns.length e1)) (hs1 : Sl cI w (.slice C1 ns.length e1) (li (bnd ns us ks ts j))) (hrl : r < w.heap.size) (hll : l < w.heap.size) (hgl : g < w.heap.size) :
    Calls Tryz.prog 118 #[.agg #[.int .i64 ns.length, .slice A0 ns.length c0, .slice A1 6 c1], .agg #[.int .i64 ks.length, .slice B0 ks.length d0, .slice B1 6 d1], .func (.func 121) #[] #[.pointer (some ⟨r, 0, none⟩), .pointer (some ⟨p, 0, none⟩), .pointer (some ⟨q, 0, none⟩), .pointer (some ⟨l, 0, none⟩)]] w
      fun e w' => ∃ A c, e = .returned (.slice A ns.length c) ∧ Ow cI 2 w.heap.size w' (.slice A ns.length c) (li (bnd ns us ks ts (j + 1))) ∧ Below w.heap.size w w' :=
  impl_linkOf ns.length ks.length A0 A1 B0 B1 ns.length 6 ks.length 6 c0 c1 d0 d1 121 #[.pointer (some ⟨r, 0, none⟩), .pointer (some ⟨p, 0, none⟩), .pointer (some ⟨q, 0, none⟩), .pointer (some ⟨l, 0, none⟩)] (hol ns us ks ts (bnd ns us ks ts j)) w h1.r.1 h2.r.1 en_bounded_2 (fun W hW x y hx hy => by
    rw [show (#[Value.int .i64 (x : Int), .int .i64 (y : Int)] ++ #[Value.pointer (some ⟨r, 0, none⟩), .pointer (some ⟨p, 0, none⟩), .pointer (some ⟨q, 0, none⟩), .pointer (some ⟨l, 0, none⟩)] : Array Value) = #[.int .i64 x, .int .i64 y, .pointer (some ⟨r, 0, none⟩), .pointer (some ⟨p, 0, none⟩), .pointer (some ⟨q, 0, none⟩), .pointer (some ⟨l, 0, none⟩)] from rfl]
    exact impl_bounded_2 ns us ks ts (bnd ns us ks ts j) A0 A1 B0 B1 C0 C1 c0 c1 d0 d1 e0 e1 L C x y p q r l g W (hp.below hW hp.lt) (hq.below hW hq.lt) ((hW.cell (p := ⟨r, 0, none⟩) hrl).trans hr) hL ((hW.cell (p := ⟨g, 0, none⟩) hgl).trans hg) (hs0.below hW)
      ((hW.cell (p := ⟨l, 0, none⟩) hll).trans hlc) (hs1.below hW) (Nat.lt_of_lt_of_le hrl hW.size) (Nat.lt_of_lt_of_le hll hW.size) (hm.a.below hW) (hm2.a.below hW) h1.r h2.r (bnd_length _ _ _ _ _) (bnd_lt8 h2.r.1 j) hx hy)
set_option maxRecDepth 100000 in
set_option maxHeartbeats 2000000 in
theorem impl_bounded (ns us ks ts : List Nat) (K : Nat) (A0 A1 B0 B1 : Option Addr) (c0 c1 d0 d1 : Nat) (w : World) (hK : K ≤ 16) (hm : Mdl w (.slice A0 ns.length c0) (.slice A1 6 c1) ns us) (hm2 : Mdl w (.slice B0 ks.length d0) (.slice B1 6 d1) ks ts) (h1 : MdN ns us) (h2 : MdN ks ts) :
    Calls Tryz.prog 76 #[.agg #[.int .i64 ns.length, .slice A0 ns.length c0, .slice A1 6 c1], .agg #[.int .i64 ks.length, .slice B0 ks.length d0, .slice B1 6 d1], .int .i64 K] w
      fun e w' => ∃ v, e = .returned v ∧ Sl2 cI w' v (bdL ns us ks ts K) ∧ Below w.heap.size w w' := by
  have hb0 := below_alloc' w (.cells #[.int .i64 ns.length, .slice A0 ns.length c0, .slice A1 6 c1] 50)
  have hk0 := Blk.new w 50 #[.int .i64 ns.length, .slice A0 ns.length c0, .slice A1 6 c1]
  have hb1 := below_alloc' (w.alloc (.cells #[.int .i64 ns.length, .slice A0 ns.length c0, .slice A1 6 c1] 50)) (.cells #[.int .i64 ks.length, .slice B0 ks.length d0, .slice B1 6 d1] 50)
  have hk1 : Blk _ (w.heap.size + 1) _ _ := Blk.new' (w.alloc (.cells #[.int .i64 ns.length, .slice A0 ns.length c0, .slice A1 6 c1] 50)) 50 #[.int .i64 ks.length, .slice B0 ks.length d0, .slice B1 6 d1] (by simp)
  have HB := Lib.hid (bthen hb0 hb1)
  have HK0 := Lib.hid (hk0.below hb1 hk0.lt)
  have HK1 := Lib.hid hk1
  have HM := Lib.hid ((hm.below hb0).below hb1)
  have HM2 := Lib.hid ((hm2.below hb0).below hb1)
  have H1 := Lib.hid h1
  have H2 := Lib.hid h2
  clear hb0 hb1 hk0 hk1 hm hm2 h1 h2
  go_enter Tryz.func76, Tryz.ntmps76
  go_upto_region 1 with fail
  generalize World.alloc (w.alloc _) _ = W at *
  have k0 := HK0.out.cell
  have k1 := HK1.out.cell
  have l0 := HK0.out.lt
  have l1 := HK1.out.lt
  go_wp2_with fail
  refine (link_bounded_1 ns us ks ts A0 A1 B0 B1 c0 c1 d0 d1 _ _ _ HK0.out HK1.out HM.out HM2.out H1.out H2.out).mono ?_
  rintro e w1 ⟨A, c, rfl, ho, hb⟩
  have hO1 := OwI.one (B := W.heap.size) ho hb.size
  have hb5 := below_alloc' (w1.alloc (.cells #[.slice A ns.length c] 24)) (.cells #[.slice (some ⟨w1.heap.size, 0, none⟩) 1 1] 55)
  have hK5 : Blk _ (w1.heap.size + 1) _ _ := Blk.new' (w1.alloc (.cells #[.slice A ns.length c] 24)) 55 #[.slice (some ⟨w1.heap.size, 0, none⟩) 1 1] (by simp)
  have HO : Hid (OwI W.heap.size (some (w1.heap.size + 1)) ((w1.alloc (.cells #[.slice A ns.length c] 24)).alloc (.cells #[.slice (some ⟨w1.heap.size, 0, none⟩) 1 1] 55)) (.slice (some ⟨w1.heap.size, 0, none⟩) 1 1) (bdL ns us ks ts 0)) := Lib.hid (hO1.mark hb5 (w1.heap.size + 1) (by simp) (by simp))
  have HB1 : Hid (Below W.heap.size W ((w1.alloc (.cells #[.slice A ns.length c] 24)).alloc (.cells #[.slice (some ⟨w1.heap.size, 0, none⟩) 1 1] 55))) := Lib.hid ((hb.trans ((Below.refl _ _).alloc hb.size (.cells #[.slice A ns.length c] 24))).trans (hb5.mono (by have := hb.size; simp; omega)))
  have HK5 := Lib.hid hK5
  have hsz1 := hb.size
  clear ho hb hO1 hb5 hK5 k0 k1
  go_wp2
  have hRW : W.heap.size ≤ w1.heap.size + 1 := by omega
  generalize w1.heap.size + 1 = R at *
  generalize World.alloc (w1.alloc _) _ = W5 at *
  clear hsz1
  go_loopw [15] (fun i wr => ∃ j : Nat, j ≤ K ∧ i = .int .i64 j ∧ (∃ g c, Blk wr R 55 #[.slice (some ⟨g, 0, none⟩) (j + 1) c] ∧ OwI W.heap.size (some R) wr (.slice (some ⟨g, 0, none⟩) (j + 1) c) (bdL ns us ks ts j)) ∧ Below W.heap.size W wr) (fun i _ => K - (intOf i).toNat)
  case atStart => exact ⟨0, Nat.zero_le _, rfl, ⟨_, _, HK5.out, HO.out⟩, HB1.out⟩
  case round =>
    obtain ⟨j, hj, rfl, ⟨g, c, hkr, ho⟩, hb⟩ := hrel
    clear HO HB1 HK5
    obtain ⟨L, hL⟩ : ∃ L, j + 1 = L := ⟨_, rfl⟩
    rw [hL] at hkr ho
    have HO := Lib.hid ho
    have HBj := Lib.hid hb
    have HLj := Lib.hid hL
    have kr := hkr.cell
    have rl := hkr.lt
    by_cases hlt : j < K
    · obtain ⟨C0, m0, e0, hg0, hs0, hgl⟩ := ho.at_ (k := 0) (by rw [bdL_length]; omega)
      obtain ⟨C1, m1, e1, hg1, hs1, -⟩ := ho.at_ (k := j) (by rw [bdL_length]; omega)
      rw [bdL_get] at hs0 hs1
      have hm0 : m0 = ns.length := by
        obtain ⟨A', c', hv⟩ := hs0.opn
        rw [li_length, bnd_length] at hv
        injection hv
      have hm1 : m1 = ns.length := by
        obtain ⟨A', c', hv⟩ := hs1.opn
        rw [li_length, bnd_length] at hv
        injection hv
      subst hm0
      subst hm1
      have hb4 := below_alloc' wr (.cells #[.slice C1 ns.length e1] 24)
      have hk4 := Blk.new wr 24 #[.slice C1 ns.length e1]
      have hk4l := hk4.lt
      have HKR := Lib.hid (hkr.below hb4 rl)
      have HO4 := Lib.hid (ho.below hb4)
      have HB4 := Lib.hid (bthen hb hb4)
      have HP := Lib.hid ((HK0.out.below hb l0).below hb4 (Nat.lt_of_lt_of_le l0 hb.size))
      have HQ := Lib.hid ((HK1.out.below hb l1).below hb4 (Nat.lt_of_lt_of_le l1 hb.size))
      have HL2 : Hid (∀ W' : World, Below (wr.alloc (.cells #[.slice C1 ns.length e1] 24)).heap.size (wr.alloc (.cells #[.slice C1 ns.length e1] 24)) W' →
          Calls Tryz.prog 118 #[.agg #[.int .i64 ns.length, .slice A0 ns.length c0, .slice A1 6 c1], .agg #[.int .i64 ks.length, .slice B0 ks.length d0, .slice B1 6 d1], .func (.func 121) #[] #[.pointer (some ⟨R, 0, none⟩), .pointer (some ⟨w.heap.size, 0, none⟩), .pointer (some ⟨w.heap.size + 1, 0, none⟩), .pointer (some ⟨wr.heap.size, 0, none⟩)]] W'
            fun e w' => ∃ A c, e = .returned (.slice A ns.length c) ∧ Ow cI 2 W'.heap.size w' (.slice A ns.length c) (li (bnd ns us ks ts (j + 1))) ∧ Below W'.heap.size W' w') := Lib.hid (fun W' hW' =>
        link_bounded_2 ns us ks ts A0 A1 B0 B1 C0 C1 c0 c1 d0 d1 e0 e1 L c w.heap.size (w.heap.size + 1) R wr.heap.size g j W' (HP.out.below hW' HP.out.lt) (HQ.out.below hW' HQ.out.lt) (((HM.out.below hb).below hb4).below hW') (((HM2.out.below hb).below hb4).below hW') H1.out H2.out
          ((HKR.out.below hW' HKR.out.lt).cell 0) (by omega) ((hW'.cell (p := ⟨g, 0, none⟩) (by have := hb4.size; show g < _; omega)).trans ((hb4.cell (p := ⟨g, 0, none⟩) hgl).trans hg0)) ((hs0.below hb4).below hW')
          ((hk4.below hW' hk4l).cell 0) ((hs1.below hb4).below hW') (Nat.lt_of_lt_of_le HKR.out.lt hW'.size) (Nat.lt_of_lt_of_le hk4l hW'.size) (by have := hb4.size; have := hW'.size; omega))
      have HE := Lib.hid (bdL_succ ns us ks ts j)
      have HOB : Hid (∀ k, (Value.slice (some ⟨g, 0, none⟩) L c).ownBlock = some k → k < (wr.alloc (.cells #[.slice C1 ns.length e1] 24)).heap.size) := Lib.hid (by
        obtain ⟨hs, q1, _⟩ := HO4.out
        exact fun k hk => (q1.block k hk).2)
      have HNR : Hid ((some R : Option Nat) ≠ (Value.slice (some ⟨g, 0, none⟩) L c).ownBlock) := Lib.hid (by
        obtain ⟨hs, -, q1, _⟩ := HO4.out
        exact fun e => (q1 R rfl).1 e.symm)
      have i1 : (j : Int) < (L : Int) := by omega
      have i4 : (L : Int) - 1 = (j : Int) := by omega
      have i3 : IntKind.i64.wrap ((L : Int) - 1) = (j : Int) := by rw [i4, IntWalk.i64_in _ ⟨by omega, by omega⟩]
      clear hs0 hs1 hk4 hb4 hkr ho hb hL hg0
      go_upto_region 5 with fail
      clear kr hg1 i1 i3 i4
      generalize wr.alloc (.cells #[.slice C1 ns.length e1] 24) = W4 at *
      have kr := HKR.out.cell
      have kp := HP.out.cell
      have kq := HQ.out.cell
      have rl4 := HKR.out.lt
      have pl4 := HP.out.lt
      have ql4 := HQ.out.lt
      go_region_law (first | (refine step_one (K := cH) _ ty_intss rfl _ _ rfl (B := W.heap.size) (xs := hs) (by simp [Act.eval, Act.put]; done) g1 (⟨A3, ns.length, c3⟩ : Hd) rfl (by simp [Act.eval, Act.put]; done) (by omega) hz3 ?_; intro v1 w5 ho1 hg1 hb1 hat1; obtain ⟨g9, c9, hv9, -⟩ := ho1.form (by simp); rw [hl9] at hv9; subst hv9; have hk9 := (hk3.alloc _).grown hg1 HNR.out; have kc9 := hk9.cell; have kf9 := hk9.frozen; have kl9 := hk9.lt) | (go_simp; go_at_call 118; refine (HL2.out _ (below_drewN (Below.refl _ _) 1)).mono ?_; rintro e w3 ⟨A3, c3, rfl, hu, hb⟩; have hO3 := (HO4.out.below (below_drewN (Below.refl _ _) 1)).below hb; have hb3 := (below_drewN HB4.out 1).trans (hb.mono (below_drewN HB4.out 1).size); have hk3 := HKR.out.below ((below_drewN (Below.refl _ _) 1).trans hb) rl4; have rc3 := hk3.cell; have rl3 := hk3.lt; obtain ⟨hs, g1, g2, g3⟩ := hO3.push hu HOB.out (fun r hr => by injection hr with hr; subst hr; exact rl4); have hz3 := hb3.size; have hlen : hs.length ≤ 17 := (by rw [g2, bdL_length]; omega); have hl9 : (hs ++ [(⟨A3, ns.length, c3⟩ : Hd)]).length = L + 1 := (by rw [List.length_append, g2, bdL_length, HLj.out]; rfl)))
      all_goals
        have Y0 := (g3 _ _ ho1 hg1 hat1).setR 0 (.slice (some ⟨g9, 0, none⟩) (L + 1) c9)
        rw [← HE.out, HLj.out] at Y0
        have Y1 := Lib.hid Y0
        clear Y0
        have Y2 := Lib.hid (hk9.set_ 0 (.slice (some ⟨g9, 0, none⟩) (L + 1) c9))
        have Y4 := Lib.hid ((hb3.trans hb1).setCell (p := ⟨R, 0, none⟩) hRW (.slice (some ⟨g9, 0, none⟩) (L + 1) c9))
        have HLL := HLj.out
        clear ho1 hg1 hb1 hat1 g1 g2 g3 hu hb hb3 hO3 hk3 rc3 kr kp kq hk9 kc9 kf9
        go_wp2
        go_roundw
        case rel => exact ⟨j + 1, by omega, by go_num, ⟨g9, c9, by rw [HLL]; exact Y2.out, by rw [HLL]; exact Y1.out⟩, Y4.out⟩
        case measure => simp [intOf]; omega
    · obtain rfl : j = K := by omega
      clear ho hb hL
      go_wp2
      go_ret
      exact ⟨_, rfl, HO.out.sl2, bthen HB.out HBj.out⟩
theorem impl_bisimilar (ns us ks ts : List Nat) (A0 A1 B0 B1 : Option Addr) (c0 c1 d0 d1 : Nat) (w : World) (hm : Mdl w (.slice A0 ns.length c0) (.slice A1 6 c1) ns us) (hm2 : Mdl w (.slice B0 ks.length d0) (.slice B1 6 d1) ks ts) (h1 : MdN ns us) (h2 : MdN ks ts) :
    Calls Tryz.prog 44 #[.agg #[.int .i64 ns.length, .slice A0 ns.length c0, .slice A1 6 c1], .agg #[.int .i64 ks.length, .slice B0 ks.length d0, .slice B1 6 d1]] w
      fun e w' => ∃ A c, e = .returned (.slice A ns.length c) ∧ Sl cI w' (.slice A ns.length c) (li (bnd ns us ks ts 16)) ∧ Below w.heap.size w w' := by
  have hb0 := below_alloc' w (.cells #[.int .i64 ns.length, .slice A0 ns.length c0, .slice A1 6 c1] 50)
  have hk0 := Blk.new w 50 #[.int .i64 ns.length, .slice A0 ns.length c0, .slice A1 6 c1]
  have hb1 := below_alloc' (w.alloc (.cells #[.int .i64 ns.length, .slice A0 ns.length c0, .slice A1 6 c1] 50)) (.cells #[.int .i64 ks.length, .slice B0 ks.length d0, .slice B1 6 d1] 50)
  have hk1 : Blk _ (w.heap.size + 1) _ _ := Blk.new' (w.alloc (.cells #[.int .i64 ns.length, .slice A0 ns.length c0, .slice A1 6 c1] 50)) 50 #[.int .i64 ks.length, .slice B0 ks.length d0, .slice B1 6 d1] (by simp)
  have HB := Lib.hid (bthen hb0 hb1)
  have HK0 := Lib.hid (hk0.below hb1 hk0.lt)
  have HK1 := Lib.hid hk1
  have HS := Lib.hid (fun W (hW : Below w.heap.size w W) => impl_bounded ns us ks ts 16 A0 A1 B0 B1 c0 c1 d0 d1 W (Nat.le_refl _) (hm.below hW) (hm2.below hW) h1 h2)
  clear hb0 hb1 hk0 hk1 hm hm2 h1 h2
  go_enter Tryz.func44, Tryz.ntmps44
  go_upto_region 1 with fail
  generalize World.alloc (w.alloc _) _ = W at *
  have k0 := HK0.out.cell
  have k1 := HK1.out.cell
  have l0 := HK0.out.lt
  have l1 := HK1.out.lt
  go_wp2_with fail
  refine (HS.out _ HB.out).mono ?_
  rintro e w1 ⟨v, rfl, hs, hb⟩
  obtain ⟨A, c, rfl⟩ := hs.opn
  obtain ⟨b, o, Aj, nj, cj, rfl, hbl, hcj, hsj⟩ := hs.at_ (k := 16) (by rw [bdL_length]; omega)
  rw [bdL_get] at hsj
  have hnj : nj = ns.length := by
    obtain ⟨A', c', hv⟩ := hsj.opn
    rw [li_length, bnd_length] at hv
    injection hv
  subst hnj
  rw [bdL_length]
  have HB1 := Lib.hid (bthen HB.out hb)
  have HSJ := Lib.hid hsj
  clear hs hb hsj k0 k1
  go_wp2
  go_ret
  exact ⟨_, _, rfl, HSJ.out, HB1.out⟩
end Go.Proofs.YtomojninngdbeaaGreat
