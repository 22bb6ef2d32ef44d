/- Contracts of the reference: matching. -/
import Derived.Test.YtcikenffeekkeaaGreatDoorY39
namespace Go.Proofs.YtcikenffeekkeaaGreatDoor
open Go.RowKit
set_option linter.unusedVariables false
set_option linter.unusedSimpArgs false
/-- the images found so far, and the flags of the variables that have one -/
structure IPr (w : World) (B G K cG : Nat) (hs : List Hd) (ks : List Bool) (σ : Img) : Prop where
  im_ : Ow cH 44 B w (.slice (some ⟨G, 0, none⟩) 6 cG) hs
  hl : hs.length = 6
  kn : Ow cB 4 B w (.slice (some ⟨K, 0, none⟩) 6 6) ks
  kl : ks.length = 6
  ne : G ≠ K
  fl : ∀ s (h : s < ks.length), ks[s] = (σ s).isSome
  at_ : ∀ s (h : s < hs.length) g, σ s = some g → ∃ b o c, hs[s] = ⟨some ⟨b, o, none⟩, (enc g).length, c⟩ ∧ b ≠ G ∧ b ≠ K ∧ Sl cN w (.slice (some ⟨b, o, none⟩) (enc g).length c) (enc g) ∧ (enc g).length ≤ 1000
theorem IPr.below {w w' : World} {B G K cG : Nat} {hs : List Hd} {ks : List Bool} {σ : Img} (h : IPr w B G K cG hs ks σ) (hb : Below w.heap.size w w') : IPr w' B G K cG hs ks σ :=
  ⟨h.im_.below hb, h.hl, h.kn.below hb, h.kl, h.ne, h.fl, fun s q g hg => by
    obtain ⟨b, o, c, e1, e2, e3, e4, e5⟩ := h.at_ s q g hg
    exact ⟨b, o, c, e1, e2, e3, e4.below hb, e5⟩⟩
theorem IPr.put {w w2 : World} {B G K cG : Nat} {hs : List Hd} {ks : List Bool} {σ : Img} (h : IPr w B G K cG hs ks σ) {s : Nat} (hs6 : s < 6) {y : Fm} {A : Option Addr} {c : Nat} (hb : Below (w.setCell ⟨K, s, none⟩ (.bool true)).heap.size (w.setCell ⟨K, s, none⟩ (.bool true)) w2)
    (hu : Ow cN 75 (w.setCell ⟨K, s, none⟩ (.bool true)).heap.size w2 (.slice A (enc y).length c) (enc y)) (hN : (enc y).length ≤ 1000) :
    IPr (w2.setCell ⟨G, s, none⟩ (.slice A (enc y).length c)) B G K cG (hs.set s ⟨A, (enc y).length, c⟩) (ks.set s true) (σ.put s y) := by
  have hsz : (w.setCell ⟨K, s, none⟩ (.bool true)).heap.size = w.heap.size := by simp [World.setCell]
  rw [hsz] at hu
  obtain ⟨b0, hA, hb0, hb1⟩ := hu.head (enc_pos y)
  subst hA
  have hGl : G < w.heap.size := (h.im_.block G rfl).2
  have hKl : K < w.heap.size := (h.kn.block K rfl).2
  have i1 : Ow cH 44 B w2 (.slice (some ⟨G, 0, none⟩) 6 cG) hs := (h.im_.far (p := ⟨K, s, none⟩) (fun e => h.ne (by injection e with e)) (.bool true)).below hb
  have k1 : Ow cB 4 B w2 (.slice (some ⟨K, 0, none⟩) 6 6) (ks.set s true) := (h.kn.set1 (j := s) (x := true) rfl rfl (by rw [h.kl]; exact hs6)).below hb
  refine ⟨i1.set1 (j := s) (x := (⟨some ⟨b0, 0, none⟩, (enc y).length, c⟩ : Hd)) rfl rfl (by rw [h.hl]; exact hs6), by rw [List.length_set]; exact h.hl, k1.far (p := ⟨G, s, none⟩) (fun e => h.ne (by injection e with e; exact e.symm)) _, by rw [List.length_set]; exact h.kl, h.ne, fun k q => ?_, fun k q g hg => ?_⟩
  · have q' : k < ks.length := by rw [List.length_set] at q; exact q
    by_cases e : k = s
    · subst e
      rw [List.getElem_set_self]
      unfold Img.put
      rw [if_pos rfl]; rfl
    · rw [List.getElem_set_ne (fun e' => e e'.symm)]
      unfold Img.put
      rw [if_neg e]
      exact h.fl k q'
  · have q' : k < hs.length := by rw [List.length_set] at q; exact q
    by_cases e : k = s
    · subst e
      rw [List.getElem_set_self]
      unfold Img.put at hg
      rw [if_pos rfl] at hg
      injection hg with hg
      subst hg
      exact ⟨b0, 0, c, rfl, by omega, by omega, (hu.setBelow (p := ⟨G, k, none⟩) (by show G < w.heap.size; exact hGl) _).sl, hN⟩
    · rw [List.getElem_set_ne (fun e' => e e'.symm)]
      unfold Img.put at hg
      rw [if_neg e] at hg
      obtain ⟨b, o, c', p1, p2, p3, p4, p5⟩ := h.at_ k q' g hg
      refine ⟨b, o, c', p1, p2, p3, ?_, p5⟩
      have s1 : Sl cN (w.setCell ⟨K, s, none⟩ (.bool true)) (.slice (some ⟨b, o, none⟩) (enc g).length c') (enc g) := p4.keptAt (by simp [World.setCell]) (fun p hp hv => by
        have e3 : some b = some p.block := hv
        injection e3 with e3
        apply World.cell?_setCell_other
        intro e4
        have e5 : p.block = K := by rw [← e4]
        exact p3 (e3.trans e5))
      exact (s1.below hb).keptAt (by simp [World.setCell]) (fun p hp hv => by
        have e3 : some b = some p.block := hv
        injection e3 with e3
        apply World.cell?_setCell_other
        intro e4
        have e5 : p.block = G := by rw [← e4]
        exact p2 (e3.trans e5))
theorem IPr.gfr {w w2 : World} {B G K cG : Nat} {hs : List Hd} {ks : List Bool} {σ : Img} (h : IPr w B G K cG hs ks σ) {s : Nat} (hs6 : s < 6) (hb : Below (w.setCell ⟨K, s, none⟩ (.bool true)).heap.size (w.setCell ⟨K, s, none⟩ (.bool true)) w2) : (∃ v, w2.cell? ⟨G, s, none⟩ = some v) ∧ w2.frozen? ⟨G, s, none⟩ = false ∧ G < w2.heap.size := by
  have i1 : Ow cH 44 B w2 (.slice (some ⟨G, 0, none⟩) 6 cG) hs := (h.im_.far (p := ⟨K, s, none⟩) (fun e => h.ne (by injection e with e)) (.bool true)).below hb
  obtain ⟨a, b, c, d⟩ := i1.at1 rfl (j := s) (by rw [h.hl]; exact hs6) (u := (hs[s]'(by rw [h.hl]; exact hs6)).val) rfl
  exact ⟨⟨_, a⟩, b, d⟩
theorem IPr.kcell {w : World} {B G K cG : Nat} {hs : List Hd} {ks : List Bool} {σ : Img} (h : IPr w B G K cG hs ks σ) {s : Nat} (hs6 : s < 6) : w.cell? ⟨K, s, none⟩ = some (.bool (σ s).isSome) ∧ w.frozen? ⟨K, s, none⟩ = false ∧ K < w.heap.size := by
  obtain ⟨a, b, c, d⟩ := h.kn.at1 rfl (j := s) (by rw [h.kl]; exact hs6) rfl
  rw [h.fl] at a
  exact ⟨a, b, d⟩
theorem IPr.gcell {w : World} {B G K cG : Nat} {hs : List Hd} {ks : List Bool} {σ : Img} (h : IPr w B G K cG hs ks σ) {s : Nat} (hs6 : s < hs.length) : w.cell? ⟨G, s, none⟩ = some hs[s].val ∧ w.frozen? ⟨G, s, none⟩ = false ∧ G < w.heap.size := by
  obtain ⟨a, b, c, d⟩ := h.im_.at1 rfl (j := s) hs6 (u := hs[s].val) rfl
  exact ⟨a, b, d⟩
def kzb (n : Nat) : Array Value := (List.replicate n (Value.bool false)).toArray
theorem run_kzb (n : Nat) (h : n ≤ 1048576) (w : World) : (Instr.makeSlice 124 (.int .i64 (n : Int)) (.int .i64 (n : Int))).run Tryz.prog w = .ok (.slice (some ⟨w.heap.size, 0, none⟩) n n) (w.alloc (.cells (kzb n) 4)) := by
  obtain ⟨i, hi, hz, hsize, hby⟩ := ty_bool3.info
  have := run_make (P := Tryz.prog) w 124 4 i _ ty_bool3.under hi hz .i64 .i64 (n : Int) (n : Int) (by omega) (Int.le_refl _) (by rw [hby]; omega) (by omega)
  have e : madeCells (Value.bool false).cells ((n : Int).toNat * i.size) = kzb n := by
    rw [hsize, Int.toNat_natCast, Nat.mul_one]
    apply Array.ext (by simp [madeCells, kzb])
    intro j h1 h2
    simp [madeCells, kzb, Value.cells, Nat.mod_one]
  rw [e, Int.toNat_natCast] at this; exact this
def kz6 : Array Value := kzb 6
theorem run_kz6 (w : World) : (Instr.makeSlice 124 (.int .i64 6) (.int .i64 6)).run Tryz.prog w = .ok (.slice (some ⟨w.heap.size, 0, none⟩) 6 6) (w.alloc (.cells kz6 4)) := run_kzb 6 (by omega) w
theorem q_l02Part {v : Value} {xs : List Nd} {i : Nat} {q : Int} {W : World} (h : Sl cN W v xs) (hl : xs.length ≤ 1073741824) (hi : i ≤ 1073741824) (hq : pe (xs.drop i) 1 i = q) (k : Nat) :
    Calls Tryz.prog 73 #[v, .int .i64 i] (W.drewN k) fun e w'' => e = .returned (.int .i64 q) ∧ ∃ m, w'' = W.drewN m :=
  (spec_l02Part v xs i _ (h.drewN k) hl hi).mono fun e w' hh => ⟨by rw [hh.1, hq], k, hh.2.symm⟩
set_option maxRecDepth 100000 in
set_option maxHeartbeats 4000000 in
theorem spec_l03Match (f g : Fm) (v u : Value) (w : World) (h : Sl cN w v (enc f)) (h' : Sl cN w u (enc g)) (hok : f.ok = true) (hl : (enc f).length ≤ 1000) (hl' : (enc g).length ≤ 1000) :
    Calls Tryz.prog 91 #[v, u] w fun e w' => ∃ r, e = .returned (.tuple #[r, .bool (inst f g)]) ∧ Below w.heap.size w w' := by
  obtain ⟨A, c, rfl⟩ := h.opn
  obtain ⟨A', d, rfl⟩ := h'.opn
  have HIR : Hid (inst f g = (matL [f] [g] fun _ => none).isSome) := Lib.hid (inst_L f g)
  have hM := Mt.start f g hok
  have HX := Lib.hid h
  have HY := Lib.hid h'
  generalize inst f g = res at *
  obtain ⟨R, hR⟩ : ∃ R, (matL [f] [g] fun _ => none) = R := ⟨_, rfl⟩
  rw [hR] at hM HIR
  clear hR h h' hok
  generalize enc f = xs at *
  generalize enc g = ys at *
  have HM0 := Lib.hid hM
  clear hM
  have HSE := Lib.hid (fun W => spec_l03Self W)
  go_enter Tryz.func91, Tryz.ntmps91
  go_upto_region 1 with fail
  have HR : ∀ w : World, (Instr.makeSlice 124 (.int .i64 6) (.int .i64 6)).run Tryz.prog w = .ok (.slice (some ⟨w.heap.size, 0, none⟩) 6 6) (w.alloc (.cells kz6 4)) := fun w => run_kz6 w
  refine wp_region_rely (Below w.heap.size w) [fun _ v X => ∃ (G cc : Nat) (hs : List Hd), v = .slice (some ⟨G, 0, none⟩) 6 cc ∧ Ow cH 44 w.heap.size X (.slice (some ⟨G, 0, none⟩) 6 cc) hs ∧ hs.length = 6,
      fun _ v X => ∃ K, v = .slice (some ⟨K, 0, none⟩) 6 6 ∧ Ow cB 4 w.heap.size X (.slice (some ⟨K, 0, none⟩) 6 6) (List.replicate 6 false),
      fun _ v X => ∃ (G cc : Nat) (hs : List Hd), v = .slice (some ⟨G, 0, none⟩) 6 cc ∧ Ow cH 44 w.heap.size X (.slice (some ⟨G, 0, none⟩) 6 cc) hs ∧ hs.length = 6,
      fun _ v X => ∃ K, v = .slice (some ⟨K, 0, none⟩) 6 6 ∧ Ow cB 4 w.heap.size X (.slice (some ⟨K, 0, none⟩) 6 6) (List.replicate 6 false)]
      [some 0, some 1, some 0, some 1] [(some 12, []), (some 13, []), (some 6, [(0, some 12)]), (some 7, [(1, some 13)])] 82
      (by kernel_rfl) (by kernel_rfl) rfl ((Below.refl _ _).drew) (fun X Y h hb => h.trans (hb.mono h.size)) ?st ?en
  case st =>
    refine stepsR_cons ?_ (stepsR_cons ?_ (stepsR_cons ?_ (stepsR_cons ?_ stepsR_nil)))
    · intro X hX
      refine stepR_of rfl ?_
      intro K hK
      go_simp
      refine (HSE.out X).mono ?_
      rintro e X5 ⟨G, cc, hs, rfl, ho, hlen, hb⟩
      exact hK _ _ hb ⟨G, cc, hs, rfl, ho.mono hX.size, hlen⟩ (fun _ k hk => ⟨(ho.block k (blks_own hk)).2, .inl (ho.block k (blks_own hk)).1⟩) rfl
    · intro X hX
      refine stepR_of rfl ?_
      intro K hK
      go_simp
      exact hK _ _ (below_alloc' X _) ⟨X.heap.size, rfl, Ow.lit' (K := cB) (List.replicate 6 false) rfl (by simp) rfl hX.size (by simp)⟩ (fun _ k hk => by have := Option.some.inj (blks_own hk); subst this; exact ⟨by simp, .inl (Nat.le_refl _)⟩) rfl
    · intro X hX v0 f0
      obtain ⟨q0, X0, hX0, G, cc, hs, rfl, ho, hlen⟩ := f0
      have ho' := ho.below hX0
      refine stepR_of rfl ?_
      intro K hK
      go_simp
      exact hK _ _ (Below.refl _ _) ⟨G, cc, hs, rfl, ho', hlen⟩ (fun _ k hk => ⟨(ho'.block k (blks_own hk)).2, .inr (List.mem_append_left _ hk)⟩) rfl
    · intro X hX v0 f0
      obtain ⟨q0, X0, hX0, K1, rfl, ho⟩ := f0
      have ho' := ho.below hX0
      refine stepR_of rfl ?_
      intro K hK
      go_simp
      exact hK _ _ (Below.refl _ _) ⟨K1, rfl, ho'⟩ (fun _ k hk => ⟨(ho'.block k (blks_own hk)).2, .inr (List.mem_append_left _ hk)⟩) rfl
  case en =>
    intro X hX va fa vb fb v0 f0 v1 f1 hsep
    obtain ⟨X0, hX0, G, cG, hs0, rfl, ho0, hlen0⟩ := f0
    obtain ⟨X1, hX1, K, rfl, hk⟩ := f1
    have ne : G ≠ K := fun e => hsep.get 2 3 rfl rfl (by decide) (own_blks (A := some ⟨G, 0, none⟩) (k := G) rfl) (own_blks (by rw [e]; rfl))
    have HP0 : Hid (IPr X w.heap.size G K cG hs0 (List.replicate 6 false) fun _ => none) := Lib.hid ⟨ho0.below hX0, hlen0, hk.below hX1, by simp, ne, fun s h => by rw [List.getElem_replicate]; rfl, fun s h g hg => by cases hg⟩
    have HBX := Lib.hid hX
    clear hsep ho0 hk hX0 hX1 hX HR HSE hlen0 ne
    go_wp2
    obtain ⟨B, hBe⟩ : ∃ B, w.heap.size = B := ⟨_, rfl⟩
    have HBE := Lib.hid hBe
    rw [hBe] at HP0 HBX
    clear hBe
    go_loopw [8, 9] (fun q i wr => ∃ (i' j : Nat) (σ : Img) (hs : List Hd) (ks : List Bool), i' ≤ xs.length ∧ i = .int .i64 i' ∧ q = .int .i64 j ∧ Mt R xs ys i' j σ ∧ IPr wr B G K cG hs ks σ ∧ Below B w wr) (fun _ i _ => xs.length - (intOf i).toNat)
    case atStart => exact ⟨0, 0, _, _, _, Nat.zero_le _, rfl, rfl, HM0.out, HP0.out, HBX.out⟩
    case round =>
      clear HM0 HP0 HBX
      obtain ⟨i, j, σ, hs, ks, hi, rfl, rfl, hM, hP, hb⟩ := hrel
      have HM := Lib.hid hM
      have HP := Lib.hid hP
      have HB := Lib.hid hb
      clear hM hP hb
      by_cases hlt : i < xs.length
      · obtain ⟨hj, hst⟩ := HM.out.step hlt
        have hbw : Below w.heap.size w wr := by rw [HBE.out]; exact HB.out
        obtain ⟨b, o, rfl, hbl, hcx⟩ := (HX.out.below hbw).cell hlt
        have hx0 := hcx 0 (.int .i64 (xs[i]'hlt).1) (by simp [cN])
        have hx1 := hcx 1 (.int .i64 (xs[i]'hlt).2) (by simp [cN])
        obtain ⟨b', o', rfl, hbl', hcy⟩ := (HY.out.below hbw).cell hj
        have hy0 := hcy 0 (.int .i64 (ys[j]'hj).1) (by simp [cN])
        have hy1 := hcy 1 (.int .i64 (ys[j]'hj).2) (by simp [cN])
        simp only [show cN.size = 2 from rfl, Nat.add_zero] at hx0 hx1 hy0 hy1
        have HST := Lib.hid hst
        clear hcx hcy hst hbw
        obtain ⟨⟨x1, x2⟩, hx⟩ : ∃ x, xs[i]'hlt = x := ⟨_, rfl⟩
        obtain ⟨⟨y1, y2⟩, hy⟩ : ∃ y, ys[j]'hj = y := ⟨_, rfl⟩
        rw [hx] at hx0 hx1 HST
        rw [hy] at hy0 hy1 HST
        simp only at hx0 hx1 hy0 hy1
        clear hx hy
        rcases HST.out with ⟨hk, hne, heq⟩ | ⟨s, y, hs5, hxs, htk, hpe, hjl, hsom, hnon⟩
        · have hk2 : (x1 == 0) = false := by simpa using hk
          by_cases he : (y1, y2) = (x1, x2)
          · injection he with e1 e2
            subst e1 e2
            have HN := Lib.hid (heq rfl)
            clear hk hne heq HST
            go_upto_region 9 with fail
            go_quiet (fail)
            have HB2 := Lib.hid (below_drewN HB.out nq)
            clear hx0 hx1 hy0 hy1
            go_wp2
            go_roundw
            case rel => exact ⟨i + 1, j + 1, σ, hs, ks, by omega, by go_num, by go_num, HN.out, HP.out.below (below_drewN (Below.refl _ _) _), HB2.out⟩
            case measure => simp [intOf]; omega
          · have hR0 := hne he
            have HR0 : Hid (res = false) := Lib.hid (by rw [HIR.out, hR0]; rfl)
            clear hk hne heq HST hR0
            go_upto_region 9 with fail
            have hnq := run_neq_node x1 x2 y1 y2
            have hd : (!(x1 == y1 && x2 == y2)) = true := by
              cases hq : (x1 == y1 && x2 == y2) with
              | false => rfl
              | true =>
                simp only [Bool.and_eq_true, beq_iff_eq] at hq
                exact absurd (by rw [hq.1, hq.2]) he
            have hng := run_eqg_node
            clear he
            go_quiet (fail)
            have HB2 : Hid (Below w.heap.size w (wr.drewN nq)) := Lib.hid (by rw [HBE.out]; exact below_drewN HB.out nq)
            go_wp2
            refine bodyPost_ret (v := .tuple #[.slice none 0 0, .bool false]) (by simp [results, Tryz.results91, go_sem]) rfl ⟨_, by rw [HR0.out], HB2.out⟩
        · injection hxs with e1 e2
          subst e1 e2
          have hk2 : ((0 : Int) == 0) = true := rfl
          clear HST
          have hyw : Sl cN wr (.slice (some ⟨b', o', none⟩) ys.length d) ys := HY.out.below (by rw [HBE.out]; exact HB.out)
          have HQ := Lib.hid (fun m => q_l02Part (W := wr) hyw (by omega) (by omega) hpe m)
          have hcap := hyw.cap
          have hc1 := hcap.2.1
          have hc2 := hcap.2.2
          clear hcap hy0 hy1
          go_upto_region 12 with fail
          go_quiet ((go_at_call 73; exact HQ.out _))
          rw [Nat.add_sub_cancel_left]
          have hcut := HY.out.cutAt (i := j) (j := j + (enc y).length) (n' := (enc y).length) (c' := d - j) (A' := some ⟨b', o' + j * 2, none⟩) (by omega) hjl (by omega) (fun b o h => by injection h with h; injection h with h1 h2; subst h1 h2; rfl) (by omega) (by omega)
          rw [Nat.add_sub_cancel_left, htk] at hcut
          have HCUT := Lib.hid hcut
          have hyl : (enc y).length ≤ 1000 := by omega
          have HP3 := Lib.hid (HP.out.below (below_drewN (Below.refl _ _) nq))
          have HB3 := Lib.hid (below_drewN HB.out nq)
          have HSOM := Lib.hid hsom
          have HNON := Lib.hid hnon
          clear hcut hsom hnon hpe htk hyw HQ hc1 hc2 hx0 hx1
          obtain ⟨w3, hw3⟩ : ∃ W, W = wr.drewN nq := ⟨_, rfl⟩
          rw [← hw3] at HP3 HB3 ⊢
          clear hw3
          have h6 : s < 6 := by omega
          obtain ⟨g0, g1, g2⟩ := HP3.out.kcell h6
          cases hsg : σ s with
          | none =>
            rw [hsg] at g0
            simp only [Option.isSome_none] at g0
            have HN := Lib.hid (HNON.out hsg)
            clear hsg
            have hs1 : (w3.setCell ⟨K, s, none⟩ (.bool true)).heap.size = w3.heap.size := by simp [World.setCell]
            have hbK : Below B w (w3.setCell ⟨K, s, none⟩ (.bool true)) := HB3.out.setCell (p := ⟨K, s, none⟩) (HP3.out.kn.block K rfl).1 _
            have HOW := Lib.hid (spec_l02Own _ (enc y) _ (HCUT.out.below (by rw [HBE.out]; exact hbK)) (by omega))
            have HBK := Lib.hid hbK
            clear hs1 hbK
            go_wp2_with fail
            refine HOW.out.mono ?_
            rintro e w6 ⟨u6, rfl, ho6, hb6⟩
            obtain ⟨A6, c6, rfl⟩ := ho6.opn
            obtain ⟨⟨gv, gc⟩, gf, gl⟩ := HP3.out.gfr h6 hb6
            have HPn := Lib.hid (HP3.out.put h6 hb6 ho6 (by omega))
            have HBn := Lib.hid ((HBK.out.trans (hb6.mono (show B ≤ _ by have := HBK.out.size; have := HBE.out; omega))).setCell (p := ⟨G, s, none⟩) (HP3.out.im_.block G rfl).1 (.slice A6 (enc y).length c6))
            clear ho6 hb6 HOW g0 g1 g2
            go_wp2
            go_roundw
            case rel => exact ⟨i + 1, j + (enc y).length, σ.put s y, _, _, by omega, by go_num, by go_num, HN.out, HPn.out, HBn.out⟩
            case measure => simp [intOf]; omega
          | some g =>
            rw [hsg] at g0
            simp only [Option.isSome_some] at g0
            have h6' : s < hs.length := by rw [HP3.out.hl]; exact h6
            obtain ⟨q0, q1, q2⟩ := HP3.out.gcell h6'
            obtain ⟨bg, og, cg, hz, hbg, hbk, hsg2, hgn⟩ := HP3.out.at_ s h6' g hsg
            rw [hz] at q0
            simp only [Hd.val] at q0
            have HSA := Lib.hid (spec_l02EqualQ _ _ (enc g) (enc y) w3 hsg2 (HCUT.out.below (by rw [HBE.out]; exact HB3.out)) (by omega) (by omega))
            obtain ⟨h1, h2⟩ := HSOM.out g hsg
            by_cases hgy : enc g = enc y
            · rw [decide_eq_true hgy] at HSA
              have hput : σ.put s y = σ := by
                have e1 : g = y := enc_eqH hgy
                funext k
                unfold Img.put
                split
                · rename_i e; subst e; rw [hsg, e1]
                · rfl
              have HN : Hid (Mt R xs ys (i + 1) (j + (enc y).length) (σ.put s y)) := Lib.hid (by rw [hput]; exact h1 hgy)
              clear h1 h2 hgy hput hsg hz hsg2
              go_wp2_with fail
              refine HSA.out.mono ?_
              rintro e w5 ⟨rfl, hb5⟩
              have HP5 := Lib.hid (HP3.out.below hb5)
              have HB5 := Lib.hid (HB3.out.trans (hb5.mono (show B ≤ _ by have := HB3.out.size; have := HBE.out; omega)))
              clear hb5 g0 g1 g2 q0 q1 q2
              obtain ⟨g0, g1, g2⟩ := HP5.out.kcell h6
              have hs1 : (w5.setCell ⟨K, s, none⟩ (.bool true)).heap.size = w5.heap.size := by simp [World.setCell]
              have hbK : Below B w (w5.setCell ⟨K, s, none⟩ (.bool true)) := HB5.out.setCell (p := ⟨K, s, none⟩) (HP5.out.kn.block K rfl).1 _
              have HOW := Lib.hid (spec_l02Own _ (enc y) _ (HCUT.out.below (by rw [HBE.out]; exact hbK)) (by omega))
              have HBK := Lib.hid hbK
              clear hs1 hbK
              go_wp2_with fail
              refine HOW.out.mono ?_
              rintro e w6 ⟨u6, rfl, ho6, hb6⟩
              obtain ⟨A6, c6, rfl⟩ := ho6.opn
              obtain ⟨⟨gv, gc⟩, gf, gl⟩ := HP5.out.gfr h6 hb6
              have HPn := Lib.hid (HP5.out.put h6 hb6 ho6 (by omega))
              have HBn := Lib.hid ((HBK.out.trans (hb6.mono (show B ≤ _ by have := HBK.out.size; have := HBE.out; omega))).setCell (p := ⟨G, s, none⟩) (HP5.out.im_.block G rfl).1 (.slice A6 (enc y).length c6))
              clear ho6 hb6 HOW g0 g1 g2
              go_wp2
              go_roundw
              case rel => exact ⟨i + 1, j + (enc y).length, σ.put s y, _, _, by omega, by go_num, by go_num, HN.out, HPn.out, HBn.out⟩
              case measure => simp [intOf]; omega
            · rw [decide_eq_false hgy] at HSA
              have hR0 := h2 hgy
              have HR0 : Hid (res = false) := Lib.hid (by rw [HIR.out, hR0]; rfl)
              clear h1 h2 hgy hR0 hsg hz hsg2
              go_wp2_with fail
              refine HSA.out.mono ?_
              rintro e w5 ⟨rfl, hb5⟩
              have HB5 : Hid (Below w.heap.size w w5) := Lib.hid (by rw [HBE.out]; exact HB3.out.trans (hb5.mono (show B ≤ _ by have := HB3.out.size; have := HBE.out; omega)))
              clear hb5
              go_wp2
              refine bodyPost_ret (v := .tuple #[.slice none 0 0, .bool false]) (by simp [results, Tryz.results91, go_sem]) rfl ⟨_, by rw [HR0.out], HB5.out⟩
      · obtain rfl : i = xs.length := by omega
        obtain ⟨h1, h2⟩ := HM.out.done rfl
        have HR1 : Hid (res = true) := Lib.hid (by rw [HIR.out, h1]; rfl)
        subst h2
        have HB2 : Hid (Below w.heap.size w wr) := Lib.hid (by rw [HBE.out]; exact HB.out)
        clear h1
        go_wp2
        refine bodyPost_ret (v := .tuple #[.slice (some ⟨G, 0, none⟩) 6 cG, .bool true]) (by simp [results, Tryz.results91, go_sem]) rfl ⟨_, by rw [HR1.out], HB2.out⟩
end Go.Proofs.YtcikenffeekkeaaGreatDoor
