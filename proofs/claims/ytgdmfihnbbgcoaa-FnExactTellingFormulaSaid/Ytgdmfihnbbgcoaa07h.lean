/- Contracts of chapter 7, of the reference: bounded. -/
import Derived.Test.YtgdmfihnbbgcoaaSB
import Derived.Test.Ytgdmfihnbbgcoaa07e
import Derived.StillTailTactics
import Derived.Deep.RegionLaw
namespace Go.Proofs.Ytgdmfihnbbgcoaa
open Go.RowKit
set_option linter.unusedVariables false
set_option linter.unusedSimpArgs false
/-- a row of headers that the call owns, each of which reads a list of numbers; no block of them is R -/
def OwI (B : Nat) (R : Option Nat) (w : World) (v : Value) (xss : List (List Int)) : Prop :=
  ∃ hs : List Hd, Ow cH 43 B w v hs ∧ (∀ r, R = some r → v.ownBlock ≠ some r ∧ r < w.heap.size) ∧ hs.length = xss.length ∧
    ∀ i (a : i < hs.length) (b : i < xss.length), Sl cI w hs[i].val xss[i] ∧ (hs[i].val.ownBlock = none ∨ (hs[i].val.ownBlock ≠ v.ownBlock ∧ ∀ k, hs[i].val.ownBlock = some k → k < w.heap.size ∧ R ≠ some k))
theorem OwI.sl2 {B : Nat} {R : Option Nat} {w : World} {v : Value} {xss : List (List Int)} (h : OwI B R w v xss) : Sl2 cI w v xss := by
  obtain ⟨hs, h1, -, h2, h3⟩ := h
  exact ⟨hs, h1.sl, h2, fun i a b => (h3 i a b).1⟩
theorem OwI.below {B : Nat} {R : Option Nat} {w w' : World} {v : Value} {xss : List (List Int)} (h : OwI B R w v xss) (hb : Below w.heap.size w w') : OwI B R w' v xss := by
  obtain ⟨hs, h1, h0, h2, h3⟩ := h
  refine ⟨hs, h1.below hb, fun r hr => ⟨(h0 r hr).1, Nat.lt_of_lt_of_le (h0 r hr).2 hb.size⟩, h2, fun i a b => ⟨(h3 i a b).1.below hb, ?_⟩⟩
  rcases (h3 i a b).2 with h | ⟨h, k⟩
  · exact .inl h
  · exact .inr ⟨h, fun j hj => ⟨Nat.lt_of_lt_of_le (k j hj).1 hb.size, (k j hj).2⟩⟩
theorem OwI.one {B B2 : Nat} {w : World} {A : Option Addr} {n c : Nat} {xs : List Int} (hu : Ow cI 2 B2 w (.slice A n c) xs) (hB : B ≤ w.heap.size) :
    OwI B none (w.alloc (.cells #[.slice A n c] 43)) (.slice (some ⟨w.heap.size, 0, none⟩) 1 1) [xs] := by
  refine ⟨[⟨A, n, c⟩], Ow.lit (K := cH) [⟨A, n, c⟩] rfl rfl hB, fun r hr => (by cases hr), rfl, fun i a b => ?_⟩
  have hi : i = 0 := by simp at a; omega
  subst hi
  refine ⟨hu.sl.alloc _, ?_⟩
  show (Value.slice A n c).ownBlock = none ∨ ((Value.slice A n c).ownBlock ≠ _ ∧ ∀ k, (Value.slice A n c).ownBlock = some k → _)
  cases hq : (Value.slice A n c).ownBlock with
  | none => exact .inl rfl
  | some k =>
    have := (hu.block k hq).2
    refine .inr ⟨?_, fun j hj => ?_⟩
    · intro e
      have e' : k = w.heap.size := by injection e
      omega
    · have e' : k = j := by injection hj
      exact ⟨by simp; omega, by simp⟩
/-- the block R is made behind -/
theorem OwI.mark {B : Nat} {w w' : World} {v : Value} {xss : List (List Int)} (h : OwI B none w v xss) (hb : Below w.heap.size w w') (r : Nat) (hr : w.heap.size ≤ r) (hr2 : r < w'.heap.size) : OwI B (some r) w' v xss := by
  obtain ⟨hs, h1, h0, h2, h3⟩ := h
  have hv := h1.block
  refine ⟨hs, h1.below hb, fun r' hr' => ?_, h2, fun i a b => ⟨(h3 i a b).1.below hb, ?_⟩⟩
  · injection hr' with e
    subst e
    refine ⟨fun e => ?_, hr2⟩
    have := (hv _ e).2
    omega
  · rcases (h3 i a b).2 with h | ⟨h, k⟩
    · exact .inl h
    · refine .inr ⟨h, fun j hj => ⟨Nat.lt_of_lt_of_le (k j hj).1 hb.size, fun e => ?_⟩⟩
      injection e with e
      have := (k j hj).1
      omega
theorem OwI.push {B : Nat} {R : Option Nat} {w : World} {v : Value} {xss : List (List Int)} {A : Option Addr} {n c : Nat} {xs : List Int} {B2 : Nat}
    (h : OwI B R w v xss) (hu : Ow cI 2 B2 w (.slice A n c) xs) (hB : ∀ k, v.ownBlock = some k → k < B2) (hR : ∀ r, R = some r → r < B2) :
    ∃ hs : List Hd, Ow cH 43 B w v hs ∧ hs.length = xss.length ∧
      ∀ w' v', Ow cH 43 B w' v' (hs ++ [⟨A, n, c⟩]) → (w.alloc (.cells #[.slice A n c] 43)).grownBy w' v.ownBlock →
        (v'.ownBlock = v.ownBlock ∨ v'.ownBlock = some (w.heap.size + 1)) → OwI B R w' v' (xss ++ [xs]) := by
  obtain ⟨hs, h1, h0, h2, h3⟩ := h
  have hlt : ∀ k, (Value.slice A n c).ownBlock = some k → B2 ≤ k ∧ k < w.heap.size := hu.block
  refine ⟨hs, h1, h2, fun w' v' ho hg hat => ?_⟩
  have hsz : w.heap.size + 1 ≤ w'.heap.size := by have := hg.size; simp at this; omega
  have key : ∀ (u : Value) (ys : List Int), Sl cI w u ys → (u.ownBlock = none ∨ (u.ownBlock ≠ v.ownBlock ∧ ∀ k, u.ownBlock = some k → k < w.heap.size ∧ R ≠ some k)) →
      Sl cI w' u ys ∧ (u.ownBlock = none ∨ (u.ownBlock ≠ v'.ownBlock ∧ ∀ k, u.ownBlock = some k → k < w'.heap.size ∧ R ≠ some k)) := by
    intro u ys hu hn
    refine ⟨(hu.alloc _).grown hg (hn.imp id And.left), ?_⟩
    rcases hn with hn | ⟨hn, hk⟩
    · exact .inl hn
    · refine .inr ⟨?_, fun k e => ⟨by have := (hk k e).1; omega, (hk k e).2⟩⟩
      rcases hat with e | e
      · rw [e]; exact hn
      · rw [e]; intro e2; have := (hk _ e2).1; omega
  refine ⟨hs ++ [⟨A, n, c⟩], ho, fun r hr => ⟨?_, by have := (h0 r hr).2; omega⟩, by simp [h2], fun i a b => ?_⟩
  · rcases hat with e | e
    · rw [e]; exact (h0 r hr).1
    · rw [e]; intro e2; injection e2 with e2; have := (h0 r hr).2; omega
  by_cases hi : i < hs.length
  · rw [List.getElem_append_left hi, List.getElem_append_left (by omega)]
    exact key _ _ (h3 i hi (by omega)).1 (h3 i hi (by omega)).2
  · have e : i = hs.length := by simp at a; omega
    subst e
    have e2 : (xss ++ [xs])[hs.length] = xs := by
      rw [List.getElem_append_right (by omega)]; simp [h2]
    rw [e2]
    have e3 : (hs ++ [(⟨A, n, c⟩ : Hd)])[hs.length] = ⟨A, n, c⟩ := by simp
    rw [e3]
    refine key _ _ hu.sl ?_
    show (Value.slice A n c).ownBlock = none ∨ ((Value.slice A n c).ownBlock ≠ _ ∧ ∀ k, (Value.slice A n c).ownBlock = some k → _)
    cases hq : (Value.slice A n c).ownBlock with
    | none => exact .inl rfl
    | some k =>
      have hk := hlt k hq
      refine .inr ⟨?_, fun j hj => ?_⟩
      · intro e
        have := hB k e.symm
        omega
      · have e' : k = j := by injection hj
        subst e'
        exact ⟨hk.2, fun e => by have := hR k e; omega⟩
def bdL (ns us ks ts : List Nat) (K : Nat) : List (List Int) := (List.range (K + 1)).map fun i => li (bnd ns us ks ts i)
theorem bdL_length (ns us ks ts : List Nat) (K : Nat) : (bdL ns us ks ts K).length = K + 1 := by simp [bdL]
theorem bdL_succ (ns us ks ts : List Nat) (K : Nat) : bdL ns us ks ts (K + 1) = bdL ns us ks ts K ++ [li (bnd ns us ks ts (K + 1))] := by
  unfold bdL
  rw [List.range_succ (n := K + 1), List.map_append]
  rfl
theorem bdL_get (ns us ks ts : List Nat) (K i : Nat) (h : i < (bdL ns us ks ts K).length) : (bdL ns us ks ts K)[i] = li (bnd ns us ks ts i) := by
  simp [bdL]
theorem bnd_lt8 {ns us ks ts : List Nat} (h : ks.length ≤ 8) (k : Nat) : ∀ x ∈ bnd ns us ks ts k, x < 2 ^ 8 := fun x hx =>
  Nat.lt_of_lt_of_le (bnd_lt ns us ks ts k x hx) (Nat.pow_le_pow_right (by decide) h)
set_option maxRecDepth 100000 in
theorem spec_l07Bounded (ns us ks ts : List Nat) (A0 A1 B0 B1 : Option Addr) (c0 c1 d0 d1 : Nat) (w : World) (hm : Mdl w (.slice A0 ns.length c0) (.slice A1 6 c1) ns us) (hm2 : Mdl w (.slice B0 ks.length d0) (.slice B1 6 d1) ks ts) (h1 : MdN ns us) (h2 : MdN ks ts) :
    Calls Try.prog 79 #[.agg #[.int .i64 ns.length, .slice A0 ns.length c0, .slice A1 6 c1], .agg #[.int .i64 ks.length, .slice B0 ks.length d0, .slice B1 6 d1]] w
      fun e w' => ∃ v, e = .returned v ∧ Sl2 cI w' v (bdL ns us ks ts 16) ∧ Below w.heap.size w w' := by
  have h8 := h1.r.1
  have hk8 := h2.r.1
  have hb0 := below_alloc' w (.cells #[.int .i64 ns.length, .slice A0 ns.length c0, .slice A1 6 c1] 62)
  have hk0 := Blk.new w 62 #[.int .i64 ns.length, .slice A0 ns.length c0, .slice A1 6 c1]
  have hb1 := below_alloc' (w.alloc (.cells #[.int .i64 ns.length, .slice A0 ns.length c0, .slice A1 6 c1] 62)) (.cells #[.int .i64 ks.length, .slice B0 ks.length d0, .slice B1 6 d1] 62)
  have hk1 : Blk _ (w.heap.size + 1) _ _ := Blk.new' (w.alloc (.cells #[.int .i64 ns.length, .slice A0 ns.length c0, .slice A1 6 c1] 62)) 62 #[.int .i64 ks.length, .slice B0 ks.length d0, .slice B1 6 d1] (by simp)
  have HB := Lib.hid (bthen hb0 hb1)
  have HK0 := Lib.hid (hk0.below hb1 hk0.lt)
  have HK1 := Lib.hid hk1
  have HS := Lib.hid (fun W (hW : Below w.heap.size w W) => spec_l07Start ns us ks ts A0 A1 B0 B1 c0 c1 d0 d1 W (hm.below hW) (hm2.below hW) h1 h2)
  have HT := Lib.hid (fun W (hW : Below w.heap.size w W) (j : Nat) v (h : Sl cI W v (li (bnd ns us ks ts j))) => spec_l07Step ns us ks ts (bnd ns us ks ts j) A0 A1 B0 B1 c0 c1 d0 d1 v W (hm.below hW) (hm2.below hW) h1 h2 h (bnd_length _ _ _ _ _) (bnd_lt8 hk8 j))
  clear hb0 hb1 hk0 hk1 hm hm2 h1 h2
  go_enter Try.func79, Try.ntmps79
  go_upto_region 1 with fail
  generalize World.alloc (w.alloc _) _ = W at *
  have k0 := HK0.out.cell
  have k1 := HK1.out.cell
  have l0 := HK0.out.lt
  have l1 := HK1.out.lt
  go_wp2_with fail
  refine (HS.out _ HB.out).mono ?_
  rintro e w1 ⟨A, c, rfl, ho, hb⟩
  have HO : Hid (OwI W.heap.size none (w1.alloc (.cells #[.slice A ns.length c] 43)) (.slice (some ⟨w1.heap.size, 0, none⟩) 1 1) (bdL ns us ks ts 0)) := Lib.hid (OwI.one ho hb.size)
  have HB1 := Lib.hid (hb.trans ((Below.refl _ _).alloc hb.size (.cells #[.slice A ns.length c] 43)))
  clear k0 k1 ho hb
  go_wp2
  go_loopw [5, 6] (fun v i wr => ∃ j : Nat, j ≤ 16 ∧ i = .int .i64 j ∧ OwI W.heap.size none wr v (bdL ns us ks ts j) ∧ Below W.heap.size W wr) (fun _ i _ => 16 - (intOf i).toNat)
  case atStart => exact ⟨0, Nat.zero_le _, rfl, HO.out, HB1.out⟩
  case round =>
    obtain ⟨j, hj, rfl, ho, hb⟩ := hrel
    clear HO HB1
    obtain ⟨A, c, rfl⟩ := ho.sl2.opn
    obtain ⟨L, hL⟩ : ∃ L, (bdL ns us ks ts j).length = L := ⟨_, rfl⟩
    rw [hL] at ho ⊢
    have hLj : L = j + 1 := by rw [← hL, bdL_length]
    have HLj := Lib.hid hLj
    clear hL
    have HO := Lib.hid ho
    have HBj := Lib.hid hb
    by_cases hlt : j < 16
    · obtain ⟨b, o, Aj, nj, cj, rfl, hbl, hcj, hsj⟩ := ho.sl2.at_ (k := j) (by rw [bdL_length]; omega)
      rw [bdL_get] at hsj
      have hnj : nj = ns.length := by
        obtain ⟨A', c', hv⟩ := hsj.opn
        rw [li_length, bnd_length] at hv
        injection hv
      subst hnj
      have HSJ := Lib.hid hsj
      have k0 := (HK0.out.below hb l0).cell
      have k1 := (HK1.out.below hb l1).cell
      have i1 : (j : Int) < (L : Int) := by omega
      clear ho hb hsj hLj
      have hBr := Lib.hid (HO.out.sl2)
      have HE := Lib.hid (bdL_succ ns us ks ts j)
      have HOB : Hid (∀ k, (Value.slice (some ⟨b, o, none⟩) L c).ownBlock = some k → k < wr.heap.size) := Lib.hid (by
        obtain ⟨hs, q1, _⟩ := HO.out
        exact fun k hk => (q1.block k hk).2)
      go_wp2
      go_region_law (first | (refine step_one (K := cH) _ ty_intss rfl _ _ rfl (B := W.heap.size) (xs := hs) (by simp [Act.eval, Act.put]; done) g1 (⟨A3, ns.length, c3⟩ : Hd) rfl (by simp [Act.eval, Act.put]; done) (by omega) hz3 ?_; intro v1 w5 ho1 hg1 hb1 hat1) | (go_simp; go_at_call 144; refine (HT.out _ (bthen HB.out (below_drewN HBj.out 1)) j _ (HSJ.out.below (below_drewN (Below.refl _ _) 1))).mono ?_; rintro e w3 ⟨A3, c3, rfl, hu, hb⟩; have hO3 := (HO.out.below (below_drewN (Below.refl _ _) 1)).below hb; have hb3 := (below_drewN HBj.out 1).trans (hb.mono (below_drewN HBj.out 1).size); obtain ⟨hs, g1, g2, g3⟩ := hO3.push hu HOB.out (fun r hr => by cases hr); have hz3 := hb3.size; have hlen : hs.length ≤ 17 := by rw [g2, bdL_length]; omega))
      all_goals
        have Y1 := Lib.hid (g3 _ _ ho1 hg1 hat1)
        have Y4 := Lib.hid (hb3.trans hb1)
        clear ho1 hg1 hb1 hat1 g1 g2 g3 hu hb hb3 hO3 k0 k1 hcj
        go_wp2
        go_roundw
        case rel => exact ⟨j + 1, by omega, by go_num, by rw [HE.out]; exact Y1.out, Y4.out⟩
        case measure => simp [intOf]; omega
    · obtain rfl : j = 16 := by omega
      clear ho hb hLj
      go_wp2
      go_ret
      exact ⟨_, rfl, HO.out.sl2, bthen HB.out HBj.out⟩
end Go.Proofs.Ytgdmfihnbbgcoaa
