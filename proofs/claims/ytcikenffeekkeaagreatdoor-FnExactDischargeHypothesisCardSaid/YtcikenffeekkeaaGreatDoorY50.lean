/- Contracts of the reference: the lines of the proof of an implication. Written by genS3L.py. -/
import Derived.Test.YtcikenffeekkeaaGreatDoorY45
import Derived.Test.YtcikenffeekkeaaGreatDoorY49
namespace Go.Proofs.YtcikenffeekkeaaGreatDoor
open Go.RowKit
set_option linter.unusedVariables false
set_option linter.unusedSimpArgs false
def mkI (n : Nat) : Array Value := (List.replicate n (Value.int .i64 0)).toArray
theorem mkI_flat (n : Nat) : flat cI (List.replicate n 0) = (mkI n).toList := by rw [flat_cI]; unfold mkI; rw [List.map_replicate]
theorem run_mkI (n : Nat) (h : n ≤ 1048576) (w : World) :
    (Instr.makeSlice 54 (.int .i64 (n : Int)) (.int .i64 (n : Int))).run Tryz.prog w = .ok (.slice (some ⟨w.heap.size, 0, none⟩) n n) (w.alloc (.cells (mkI n) 2)) := by
  obtain ⟨i, hi, hz, hsize, hby⟩ := ty_int64.info
  have := run_make (P := Tryz.prog) w 54 2 i _ ty_int64.under hi hz .i64 .i64 (n : Int) (n : Int) (by omega) (Int.le_refl _) (by rw [hby]; omega) (by omega)
  have e : madeCells (Value.int .i64 0).cells ((n : Int).toNat * i.size) = mkI n := by
    rw [hsize, Int.toNat_natCast, Nat.mul_one]
    apply Array.ext (by simp [madeCells, mkI])
    intro j h1 h2
    simp [madeCells, mkI, Value.cells, Nat.mod_one]
  rw [e, Int.toNat_natCast] at this; exact this
theorem Ow.mkI {B : Nat} (w : World) (n g : Nat) (hg : g = w.heap.size) (hB : B ≤ g) (h : n ≤ 1048576) : Ow cI 2 B (w.alloc (.cells (mkI n) 2)) (.slice (some ⟨g, 0, none⟩) n n) (List.replicate n 0) :=
  Ow.lit' (List.replicate n (0 : Int)) hg (by simp) (mkI_flat n) hB (by simp; omega)
theorem UsO.hdr {B : Nat} {w : World} {v : Value} {uss : List (List Int)} (h : UsO B w v uss) : ∃ hd : List Hd, Ow cH 54 B w v hd ∧ hd.length = uss.length ∧ ∀ i (p : i < hd.length), hd[i].n = (uss.getD i []).length := by
  obtain ⟨hs, h1, h2, h3⟩ := h
  refine ⟨hs, h1, h2, fun i p => ?_⟩
  obtain ⟨A, c, e⟩ := (h3 i p (by omega)).1.opn
  have : hs[i].val = .slice hs[i].a hs[i].n hs[i].c := rfl
  rw [this] at e
  injection e with _ e2 _
  rw [e2, List.getD_eq_getElem?_getD, List.getElem?_eq_getElem (by omega)]; rfl
theorem fine_s {t : List UInt8} {hy : List (List Nd)} {P : List Ln} {k : Nat} {l : Ln} (h : fine t hy P k l = true) (h2 : l.r = 2) : l.s = 0 := by
  unfold fine at h
  rw [Bool.and_eq_true] at h
  have h3 := h.2
  rw [if_neg (by omega), if_pos h2] at h3
  simp only [Bool.and_eq_true, decide_eq_true_eq] at h3
  exact h3.1.1
theorem flgs_takeD (P : List Ln) (k i : Nat) (hk : k ≤ P.length) (hi : i < k) : (flgs (P.take k)).getD i false = (flgs P).getD i false := by
  rw [← flgs_take P k hk, List.getD_eq_getElem?_getD, List.getElem?_take, if_pos hi, ← List.getD_eq_getElem?_getD]
set_option maxRecDepth 100000 in
set_option maxHeartbeats 8000000 in
theorem spec_l13Discharge (t : List UInt8) (hy : List (List Nd)) (P : List Ln) (vh vP : Value) (w : World) (hH : Sl2 cN w vh hy) (hh0 : 0 < hy.length) (hhl : hy.length ≤ 1048576) (hP : SlL w vP P) (hPl : P.length ≤ 200) (hla : (hy.getLastD []).length ≤ 40) (hf : ∀ i (h : i < P.length), fine t hy P i (P[i]'h) = true) :
    Calls Tryz.prog 18 #[vh, vP] w fun e w' => ∃ u, e = .returned u ∧ ObL w.heap.size w'.heap.size w' u (disL (hy.getLastD []) ((hy.length : Int) - 1) P) ∧ Below w.heap.size w w' := by
  obtain ⟨Ah, ch, rfl⟩ := hH.opn
  obtain ⟨AP, cP', rfl⟩ := hP.opn
  have hlt0 : hy.length - 1 < hy.length := by omega
  obtain ⟨a, ha⟩ : ∃ a, hy.getLastD [] = a := ⟨_, rfl⟩
  rw [ha] at hla ⊢
  obtain ⟨bh, oh, Aa, ca, rfl, hbh, hch, hsa⟩ := hH.atM hlt0
  have hae : hy[hy.length - 1]'hlt0 = a := by rw [← ha, lastD_at hy hh0]
  rw [hae] at hch hsa
  obtain ⟨m, hm⟩ : ∃ m, hy.length - 1 = m := ⟨_, rfl⟩
  rw [hm] at hch hlt0
  obtain ⟨lst, hls⟩ : ∃ z : Int, (hy.length : Int) - 1 = z := ⟨_, rfl⟩
  have hml : lst = (m : Int) := by omega
  rw [hls]
  have hwr : IntKind.i64.wrap ((hy.length : Int) - 1) = (m : Int) := by rw [IntWalk.i64_in _ ⟨by omega, by omega⟩]; omega
  have HML := Lib.hid hml
  have HA := Lib.hid hsa
  have HPA := Lib.hid hP
  have HF := Lib.hid hf
  have HDD := Lib.hid (fun W (hW : Below w.heap.size w W) => spec_l13Depends _ P W (hP.below hW) hPl (fun k hk => fine_prm (hf k hk)))
  have HEM := Lib.hid (fun i => dps_em P P.length (Nat.le_refl _) i)
  have HDL := Lib.hid (dps_inv P P.length (Nat.le_refl _)).1
  rw [List.take_length] at HEM HDL
  clear ha hae hm hls hml hsa hP hf hH hh0
  go_enter Tryz.func18, Tryz.ntmps18
  go_upto_region 2 with fail
  refine wp_region_rely (Below w.heap.size w) [fun _ v _ => v = .slice (some ⟨bh, oh, none⟩) hy.length ch, fun _ v _ => v = .int .i64 (m : Int), fun _ v _ => v = .pointer (some ⟨bh, oh + m, none⟩), fun _ v _ => v = .slice Aa a.length ca, fun _ v _ => v = .slice AP P.length cP',
      fun _ v X => ∃ A c, v = .slice A (dps P).length c ∧ UsO w.heap.size X (.slice A (dps P).length c) (dps P),
      fun _ v X => ∃ b, v = .slice (some ⟨b, 0, none⟩) 0 0 ∧ Ow cLn 46 w.heap.size X (.slice (some ⟨b, 0, none⟩) 0 0) [],
      fun _ v _ => v = .slice Aa a.length ca,
      fun _ v X => ∃ A c, v = .slice A (dps P).length c ∧ UsO w.heap.size X (.slice A (dps P).length c) (dps P),
      fun _ v X => ∃ b, v = .slice (some ⟨b, 0, none⟩) 0 0 ∧ Ow cLn 46 w.heap.size X (.slice (some ⟨b, 0, none⟩) 0 0) []]
      [none, none, none, none, none, some 5, some 6, none, some 5, some 6]
      [(some 24, []), (some 25, []), (some 26, [(0, some 24), (1, some 25)]), (some 27, [(2, some 26)]), (some 28, []), (some 29, [(4, some 28)]), (some 30, []), (some 6, [(3, some 27)]), (some 7, [(5, some 29)]), (some 8, [(6, some 30)])] 170
      (by kernel_rfl) (by kernel_rfl) rfl ((Below.refl _ _).drew) (fun X Y h hb => h.trans (hb.mono h.size)) ?st ?en
  case st =>
    refine stepsR_cons ?_ (stepsR_cons ?_ (stepsR_cons ?_ (stepsR_cons ?_ (stepsR_cons ?_ (stepsR_cons ?_ (stepsR_cons ?_ (stepsR_cons ?_ (stepsR_cons ?_ (stepsR_cons ?_ stepsR_nil)))))))))
    · intro X hX
      refine stepR_of rfl ?_
      intro K hK
      go_simp
      exact hK _ _ (Below.refl _ _) rfl (fun h => absurd rfl h) rfl
    · intro X hX
      refine stepR_of rfl ?_
      intro K hK
      go_simp
      exact hK _ _ (Below.refl _ _) rfl (fun h => absurd rfl h) rfl
    · intro X hX v0 f0 v1 f1
      obtain ⟨q0, X0, hX0, rfl⟩ := f0
      obtain ⟨q1, X1, hX1, rfl⟩ := f1
      refine stepR_of rfl ?_
      intro K hK
      go_simp
      exact hK _ _ (Below.refl _ _) rfl (fun h => absurd rfl h) rfl
    · intro X hX v2 f2
      obtain ⟨q2, X2, hX2, rfl⟩ := f2
      have hch' := (hX.cell (p := ⟨bh, oh + m, none⟩) hbh).trans hch
      refine stepR_of rfl ?_
      intro K hK
      go_simp
      exact hK _ _ (Below.refl _ _) rfl (fun h => absurd rfl h) rfl
    · intro X hX
      refine stepR_of rfl ?_
      intro K hK
      go_simp
      exact hK _ _ (Below.refl _ _) rfl (fun h => absurd rfl h) rfl
    · intro X hX v4 f4
      obtain ⟨q4, X4, hX4, rfl⟩ := f4
      refine stepR_of rfl ?_
      intro K hK
      go_simp
      refine (HDD.out X hX).mono ?_
      rintro e X5 ⟨u1, rfl, ho, hb⟩
      obtain ⟨A, c, rfl⟩ := ho.opn
      have ho' : UsO w.heap.size X5 (.slice A (dps P).length c) (dps P) := by
        obtain ⟨hs, h1, h2, h3⟩ := ho
        exact ⟨hs, h1.mono hX.size, h2, fun i p q => ⟨(h3 i p q).1, fun k hk => ⟨((h3 i p q).2 k hk).1, Nat.le_trans hX.size ((h3 i p q).2 k hk).2.1, ((h3 i p q).2 k hk).2.2⟩⟩⟩
      refine hK _ _ hb ⟨A, c, rfl, ho'⟩ (fun _ k hk => ?_) rfl
      obtain ⟨hs, h1, -⟩ := ho
      exact ⟨(h1.block k (blks_own hk)).2, .inl (h1.block k (blks_own hk)).1⟩
    · intro X hX
      refine stepR_of rfl ?_
      intro K hK
      go_simp
      exact hK _ _ (below_alloc' X _) ⟨X.heap.size, rfl, Ow.lit (K := cLn) (e := 46) (B := w.heap.size) (cs := #[]) (n := 0) [] rfl rfl hX.size⟩ (fun _ k hk => by have := Option.some.inj (blks_own hk); subst this; exact ⟨by simp, .inl (Nat.le_refl _)⟩) rfl
    · intro X hX v3 f3
      obtain ⟨q3, X3, hX3, rfl⟩ := f3
      refine stepR_of rfl ?_
      intro K hK
      go_simp
      exact hK _ _ (Below.refl _ _) rfl (fun h => absurd rfl h) rfl
    · intro X hX v5 f5
      obtain ⟨q5, X5, hX5, A, c, rfl, ho⟩ := f5
      have ho' := ho.below hX5
      refine stepR_of rfl ?_
      intro K hK
      go_simp
      refine hK _ _ (Below.refl _ _) ⟨A, c, rfl, ho'⟩ (fun _ k hk => ?_) rfl
      obtain ⟨hs, h1, -⟩ := ho'
      exact ⟨(h1.block k (blks_own hk)).2, .inr (List.mem_append_left _ hk)⟩
    · intro X hX v6 f6
      obtain ⟨q6, X6, hX6, b, rfl, ho⟩ := f6
      have ho' := ho.below hX6
      refine stepR_of rfl ?_
      intro K hK
      go_simp
      exact hK _ _ (Below.refl _ _) ⟨b, rfl, ho'⟩ (fun _ k hk => ⟨(ho'.block k (blks_own hk)).2, .inr (List.mem_append_left _ hk)⟩) rfl
  case en =>
    intro X hX v0 f0 v1 f1 v2 f2 v3 f3 v4 f4 v5 f5 v6 f6 v7 f7 v8 f8 v9 f9 hsep
    obtain ⟨X7, hX7, rfl⟩ := f7
    obtain ⟨X8, hX8, Ad, cd, rfl, ho8⟩ := f8
    obtain ⟨X9, hX9, b0, rfl, ho9⟩ := f9
    have hne0 : ∀ k, (Value.slice Ad (dps P).length cd).ownBlock = some k → k ≠ b0 := fun k e e2 => hsep.get 8 9 rfl rfl (by decide) (own_blks e) (own_blks (by rw [e2]; rfl))
    obtain ⟨hd, hdo, hdl, hdn⟩ := (ho8.below hX8).hdr
    have HDO := Lib.hid hdo
    have HDN := Lib.hid hdn
    have HDL2 : Hid (hd.length = P.length) := Lib.hid (hdl.trans HDL.out)
    have HO9 := Lib.hid (ho9.below hX9)
    have HBX := Lib.hid hX
    have HN0 := Lib.hid hne0
    clear hsep ho8 ho9 hX8 hX9 hX7 hX hne0 hdo hdn hdl
    go_upto_region 3 with fail
    clear f0 f1 f2 f3 f4 f5 f6
    have HR : ∀ w : World, (Instr.makeSlice 54 (.int .i64 (P.length : Int)) (.int .i64 (P.length : Int))).run Tryz.prog w = .ok (.slice (some ⟨w.heap.size, 0, none⟩) P.length P.length) (w.alloc (.cells (mkI P.length) 2)) := fun w => run_mkI P.length (by omega) w
    refine wp_region_rely (Below X.heap.size X) [fun _ v _ => v = .slice AP P.length cP', fun _ v _ => v = .int .i64 (P.length : Int), fun _ v W => ∃ g, v = .slice (some ⟨g, 0, none⟩) P.length P.length ∧ Ow cI 2 X.heap.size W (.slice (some ⟨g, 0, none⟩) P.length P.length) (List.replicate P.length 0),
        fun _ v _ => v = .slice AP P.length cP', fun _ v _ => v = .int .i64 (P.length : Int), fun _ v W => ∃ g, v = .slice (some ⟨g, 0, none⟩) P.length P.length ∧ Ow cI 2 X.heap.size W (.slice (some ⟨g, 0, none⟩) P.length P.length) (List.replicate P.length 0),
        fun _ v W => ∃ g, v = .slice (some ⟨g, 0, none⟩) P.length P.length ∧ Ow cI 2 X.heap.size W (.slice (some ⟨g, 0, none⟩) P.length P.length) (List.replicate P.length 0),
        fun _ v W => ∃ g, v = .slice (some ⟨g, 0, none⟩) P.length P.length ∧ Ow cI 2 X.heap.size W (.slice (some ⟨g, 0, none⟩) P.length P.length) (List.replicate P.length 0)]
        [none, none, some 2, none, none, some 5, some 2, some 5]
        [(some 31, []), (some 32, [(0, some 31)]), (some 33, [(1, some 32)]), (some 34, []), (some 35, [(3, some 34)]), (some 36, [(4, some 35)]), (some 9, [(2, some 33)]), (some 10, [(5, some 36)])] 170
        (by kernel_rfl) (by kernel_rfl) rfl ((Below.refl _ _).drew) (fun X Y h hb => h.trans (hb.mono h.size)) ?st2 ?en2
    case st2 =>
      refine stepsR_cons ?_ (stepsR_cons ?_ (stepsR_cons ?_ (stepsR_cons ?_ (stepsR_cons ?_ (stepsR_cons ?_ (stepsR_cons ?_ (stepsR_cons ?_ stepsR_nil)))))))
      · intro X hX
        refine stepR_of rfl ?_
        intro K hK
        go_simp
        exact hK _ _ (Below.refl _ _) rfl (fun h => absurd rfl h) rfl
      · intro X hX v0 f0
        obtain ⟨q0, X0, hX0, rfl⟩ := f0
        refine stepR_of rfl ?_
        intro K hK
        go_simp
        exact hK _ _ (Below.refl _ _) rfl (fun h => absurd rfl h) rfl
      · intro Y hY v1 f1
        obtain ⟨q1, X1, hX1, rfl⟩ := f1
        refine stepR_of rfl ?_
        intro K hK
        go_simp
        exact hK _ _ (below_alloc' Y _) ⟨Y.heap.size, rfl, Ow.mkI Y _ _ rfl hY.size (by omega)⟩ (fun _ k hk => by have := Option.some.inj (blks_own hk); subst this; exact ⟨by simp, .inl (Nat.le_refl _)⟩) rfl
      · intro X hX
        refine stepR_of rfl ?_
        intro K hK
        go_simp
        exact hK _ _ (Below.refl _ _) rfl (fun h => absurd rfl h) rfl
      · intro X hX v0 f0
        obtain ⟨q0, X0, hX0, rfl⟩ := f0
        refine stepR_of rfl ?_
        intro K hK
        go_simp
        exact hK _ _ (Below.refl _ _) rfl (fun h => absurd rfl h) rfl
      · intro Y hY v1 f1
        obtain ⟨q1, X1, hX1, rfl⟩ := f1
        refine stepR_of rfl ?_
        intro K hK
        go_simp
        exact hK _ _ (below_alloc' Y _) ⟨Y.heap.size, rfl, Ow.mkI Y _ _ rfl hY.size (by omega)⟩ (fun _ k hk => by have := Option.some.inj (blks_own hk); subst this; exact ⟨by simp, .inl (Nat.le_refl _)⟩) rfl
      · intro Y hY v2 f2
        obtain ⟨q2, X2, hX2, g, rfl, ho⟩ := f2
        have ho' := ho.below hX2
        refine stepR_of rfl ?_
        intro K hK
        go_simp
        exact hK _ _ (Below.refl _ _) ⟨g, rfl, ho'⟩ (fun _ k hk => ⟨(ho'.block k (blks_own hk)).2, .inr (List.mem_append_left _ hk)⟩) rfl
      · intro Y hY v2 f2
        obtain ⟨q2, X2, hX2, g, rfl, ho⟩ := f2
        have ho' := ho.below hX2
        refine stepR_of rfl ?_
        intro K hK
        go_simp
        exact hK _ _ (Below.refl _ _) ⟨g, rfl, ho'⟩ (fun _ k hk => ⟨(ho'.block k (blks_own hk)).2, .inr (List.mem_append_left _ hk)⟩) rfl
    case en2 =>
      intro Y hY v10 f10 v11 f11 v12 f12 v13 f13 v14 f14 v15 f15 v16 f16 v17 f17 hsep
      obtain ⟨Y6, hY6, nO, rfl, hoO⟩ := f16
      obtain ⟨Y7, hY7, nL, rfl, hoL⟩ := f17
      have hOL : nO ≠ nL := fun e => hsep.get 6 7 rfl rfl (by decide) (own_blks (A := some ⟨nO, 0, none⟩) (k := nO) rfl) (own_blks (by rw [e]; rfl))
      obtain ⟨c, hc⟩ : ∃ c : Nat → Nat, c = fun k => if k = nO ∨ k = nL ∨ (Value.slice Ad (dps P).length cd).ownBlock = some k then 0 else 1 := ⟨_, rfl⟩
      have g1 := (hoO.block nO rfl).1
      have g2 := (hoL.block nL rfl).1
      have hoO' := hoO.below hY6
      have hoL' := hoL.below hY7
      have g3 := (hoO'.block nO rfl).2
      have g4 := (hoL'.block nL rfl).2
      have gb := (HO9.out.block b0 rfl).2
      have hz := hY.size
      have hzX := HBX.out.size
      have HM0 : Hid (DcM w.heap.size c (.slice (some ⟨b0, 0, none⟩) 0 0) (.slice Ad (dps P).length cd) (.slice (some ⟨nO, 0, none⟩) P.length P.length) (.slice (some ⟨nL, 0, none⟩) P.length P.length) [] hd (List.replicate P.length 0) (List.replicate P.length 0) Y) := Lib.hid (by
        have hdo := HDO.out.below hY
        have hdlt : ∀ k, (Value.slice Ad (dps P).length cd).ownBlock = some k → k < X.heap.size := fun k e => (HDO.out.block k e).2
        refine ⟨⟨⟨[], HO9.out.below hY, (fun k e => ?_), rfl, fun i p => by simp at p⟩, by omega, fun k hk => ?_⟩, hdo, hoO'.mono hzX, hoL'.mono hzX, (fun k e => ?_), (fun k e => ?_), (fun k e => ?_), (fun k e => ⟨fun e2 => ?_, fun e2 => ?_⟩), fun k e e2 => ?_⟩
        · have e1 : b0 = k := by injection e
          subst e1
          rw [hc]
          exact if_neg (by rintro (h | h | h); omega; omega; exact HN0.out _ h rfl)
        · rw [hc]
          exact if_neg (by rintro (h | h | h); omega; omega; have := hdlt k h; omega)
        · rw [hc]; exact if_pos (.inr (.inr e))
        · have e1 : nO = k := by injection e
          rw [hc]; exact if_pos (.inl e1.symm)
        · have e1 : nL = k := by injection e
          rw [hc]; exact if_pos (.inr (.inl e1.symm))
        · have e1 : nO = k := by injection e
          have e3 : nL = k := by injection e2
          omega
        · have e1 : nO = k := by injection e
          have := hdlt k e2
          omega
        · have e1 : nL = k := by injection e
          have := hdlt k e2
          omega)
      have HB0 := Lib.hid (HBX.out.trans (hY.mono hzX))
      have HNL : Hid (w.heap.size ≤ nO ∧ w.heap.size ≤ nL) := Lib.hid ⟨by omega, by omega⟩
      clear hsep hoO hoL hoO' hoL' hY6 hY7 hY HR HDO HO9 HBX HN0 hc g1 g2 g3 g4 gb hz hzX HDD hOL
      go_upto_region 4 with fail
      clear f10 f11 f12 f13 f14 f15
      go_wp2
      go_loopw [8, 11] (fun o i wr => ∃ (k : Nat) (ow lf : List Int), k ≤ P.length ∧ i = .int .i64 k ∧ DcM w.heap.size c o (.slice Ad (dps P).length cd) (.slice (some ⟨nO, 0, none⟩) P.length P.length) (.slice (some ⟨nL, 0, none⟩) P.length P.length) (pall a lst P k).out hd ow lf wr ∧ DcR (pall a lst P k) (flgs P) k ow lf ∧ ow.length = P.length ∧ lf.length = P.length ∧ Below w.heap.size w wr) (fun _ i _ => P.length - (intOf i).toNat)
      case atStart => exact ⟨0, List.replicate P.length 0, List.replicate P.length 0, Nat.zero_le _, rfl, HM0.out, DcR.start _ _ _, by simp, by simp, HB0.out⟩
      case round =>
        clear HM0 HB0
        obtain ⟨k, ow, lf, hk, rfl, hmm, hrr, how, hlf, hb⟩ := hrel
        obtain ⟨Ao, co, rfl⟩ := hmm.gr.1.opn
        have HM := Lib.hid hmm
        have HRR := Lib.hid hrr
        have HB := Lib.hid hb
        by_cases hlt : k < P.length
        · obtain ⟨bL, oL, Ax, cx, rfl, hbL, l0, l1, l2, l3, hsx⟩ := HPA.out.at_ hlt
          obtain ⟨l, hle⟩ : ∃ l, P[k] = l := ⟨_, rfl⟩
          have hfk := HF.out k hlt
          have hfs := fun h => fine_s hfk h
          have hlx := fine_len hfk
          have hfa := flgs_at P k hlt
          have hprm := fine_prm hfk
          have hdp := fine_dep hfk
          have hfg : flg (flgs (P.take k)) P[k] = false → ∀ x ∈ prmL P[k], (flgs (P.take k)).getD x.toNat false = false := fun h => flg_prm h
          have hel := flgs_len P
          have hkF : k < (flgs P).length := by rw [hel]; exact hlt
          have e1 : (flgs P).getD k false = (flgs P)[k]'hkF := by rw [List.getD_eq_getElem?_getD, List.getElem?_eq_getElem hkF]; rfl
          have e2 : P.getD k ln0 = P[k] := by rw [List.getD_eq_getElem?_getD, List.getElem?_eq_getElem hlt]; rfl
          obtain ⟨q1, q2, q3⟩ := pall_len a lst P k
          have hst : pall a lst P (k + 1) = pstep a lst ((flgs P)[k]'hkF) (P.getD (P[k]).s.toNat ln0).x P[k] (pall a lst P k) := by rw [pall, e1, e2]
          rw [hle] at l0 l1 l2 l3 hsx hlx hfa hprm hdp hfg hst hfs
          clear e2 hle hfk
          obtain ⟨r, f, s, xs⟩ := l
          simp only at l0 l1 l2 l3 hsx hlx
          rw [← hfa] at hdp hfg
          have HX := Lib.hid hsx
          have hemk : ((hd[k]'(by rw [HDL2.out]; exact hlt)).n : Int) = (((dps P).getD k []).length : Int) := by rw [HDN.out]
          have hem0 := HEM.out k
          rw [e1] at hem0
          have HPST := Lib.hid hst
          clear hsx hfa hst
          generalize hstq : pall a lst P k = st at *
          obtain ⟨out, se, im⟩ := st
          clear hstq
          simp only at hmm q1 q2 q3 HM ⊢
          have hba := below_alloc' wr (.cells #[.int .i64 r, .int .i64 f, .int .i64 s, .slice Ax xs.length cx] 46)
          have M1 := Lib.hid (hmm.below hba)
          have BX1 : Hid (WtB (wr.alloc (.cells #[.int .i64 r, .int .i64 f, .int .i64 s, .slice Ax xs.length cx] 46)) (.slice Ao out.length co) wr.heap.size #[.int .i64 r, .int .i64 f, .int .i64 s, .slice Ax xs.length cx]) := Lib.hid ⟨Blk.new wr _ _, fun e => by have := (hmm.gr.own _ e).2; omega⟩
          have HB1 := Lib.hid (hb.trans (hba.mono hb.size))
          replace l0 := (hb.cell (p := ⟨bL, oL + k * 4, none⟩) hbL).trans l0
          replace l1 := (hb.cell (p := ⟨bL, oL + k * 4 + 1, none⟩) hbL).trans l1
          replace l2 := (hb.cell (p := ⟨bL, oL + k * 4 + 2, none⟩) hbL).trans l2
          replace l3 := (hb.cell (p := ⟨bL, oL + k * 4 + 3, none⟩) hbL).trans l3
          have hbL' := Nat.lt_of_lt_of_le hbL hb.size
          obtain ⟨bd, od, rfl, hbd, hcd⟩ := M1.out.dp.sl.cell (k := k) (by rw [HDL2.out]; exact hlt)
          have d0 := hcd 0 _ rfl
          simp only [Hd.val, show cH.size = 1 from rfl, Nat.mul_one, Nat.add_zero] at d0
          obtain ⟨hk9, hh9⟩ : ∃ h, hd[k]'(by rw [HDL2.out]; exact hlt) = h := ⟨_, rfl⟩
          rw [hh9] at d0 hemk
          obtain ⟨Ah9, nh9, ch9⟩ := hk9
          simp only at d0 hemk
          clear hcd hba hh9
          have hkd : k < (dps P).length := by rw [HDL.out]; exact hlt
          have HEMK := Lib.hid hemk
          clear hemk hmm hrr hb hbL
          cases hem : (flgs P)[k]'hkF with
          | false =>
            have hz9 : ((nh9 : Int) == 0) = true := by
              have h5 : ((dps P).getD k []).isEmpty = true := by rw [hem0, hem]; rfl
              rw [HEMK.out, List.isEmpty_iff.1 h5]; rfl
            have hpq : ∀ x ∈ prmL ⟨r, f, s, xs⟩, ∃ i : Nat, x = i ∧ i < k ∧ (flgs P).getD i false = false := fun x hx => by
              obtain ⟨i, hi, hik⟩ := hprm x hx
              refine ⟨i, hi, hik, ?_⟩
              have h6 := hfg hem x hx
              rw [hi, Int.toNat_natCast, flgs_takeD P k i (by omega) hik] at h6
              exact h6
            obtain ⟨m1, m2⟩ := HRR.out.mv ⟨r, f, s, xs⟩ hpq
            have HMV := Lib.hid (fun W (hW : Below w.heap.size w W) (hs : Sl cI W (.slice (some ⟨nO, 0, none⟩) P.length P.length) ow) => spec_l13Move ⟨r, f, s, xs⟩ (.slice Ax xs.length cx) (.slice (some ⟨nO, 0, none⟩) P.length P.length) ow W (HX.out.below hW) hs (fun x hx => by obtain ⟨i, hi, hik, -⟩ := hpq x hx; exact ⟨i, hi, by omega⟩) (by simp only; omega) (by omega))
            simp only at HMV
            rw [m1, m2] at HMV
            obtain ⟨mf, hmf⟩ : ∃ x, mvf se ⟨r, f, s, xs⟩ = x := ⟨_, rfl⟩
            obtain ⟨ms, hms⟩ : ∃ x, mvs se ⟨r, f, s, xs⟩ = x := ⟨_, rfl⟩
            rw [hmf, hms] at HMV
            have HMF := Lib.hid hmf
            have HMS := Lib.hid hms
            have hst := HPST.out
            rw [hem] at hst
            unfold pstep at hst
            dsimp only at hst
            rw [if_pos rfl, hmf, hms] at hst
            have HST0 := Lib.hid hst
            clear hst hmf hms m1 m2 hpq hem0 hdp hfg hprm hfs hem
            go_upto_region 17 with fail
            obtain ⟨w1, hw1⟩ : ∃ W, W = wr.alloc (.cells #[.int .i64 r, .int .i64 f, .int .i64 s, .slice Ax xs.length cx] 46) := ⟨_, rfl⟩
            obtain ⟨p, hp⟩ : ∃ p, wr.heap.size = p := ⟨_, rfl⟩
            rw [← hw1] at M1 BX1 HB1 d0 hbd ⊢
            rw [hp] at BX1 ⊢
            clear hw1 hp
            have p0 : w1.cell? ⟨p, 0, none⟩ = some (.int .i64 r) := BX1.out.1.cell 0
            have p1 : w1.cell? ⟨p, 1, none⟩ = some (.int .i64 f) := BX1.out.1.cell 1
            have p2 : w1.cell? ⟨p, 2, none⟩ = some (.int .i64 s) := BX1.out.1.cell 2
            have p3 : w1.cell? ⟨p, 3, none⟩ = some (.slice Ax xs.length cx) := BX1.out.1.cell 3
            have lp := BX1.out.1.lt
            clear l0 l1 l2 l3 hbL' d0 hbd
            replace HMV := Lib.hid (HMV.out w1 HB1.out M1.out.oo.sl)
            go_wp2_with fail
            refine HMV.out.mono ?_
            rintro e w2 ⟨u2, rfl, ho2, hb2⟩
            obtain ⟨A2, c2, rfl⟩ := ho2.opn
            obtain ⟨hs, hoL, hlen, hK⟩ := Gr.push M1.out.gr hb2 ho2 (r, mf, ms)
            have HLN := Lib.hid hlen
            have HOL := Lib.hid hoL
            have HK := Lib.hid hK
            have HBm := Lib.hid hb2
            have HZ := Lib.hid (Nat.le_trans M1.out.gr.2.1 hb2.size)
            clear ho2 hb2 hoL hlen hK HMV
            go_wp2_with (at_builtin; refine stopHere ?_)
            refine goHere ?_
            refine ap_one (K := cLn) w2 ty_line rfl _ _ rfl (B := w.heap.size) (v := .slice Ao out.length co) (xs := hs) (by rw [← HLN.out]; rfl) HOL.out ((r, mf, ms), ⟨A2, xs.length, c2⟩) rfl rfl (by rw [HLN.out]; omega) HZ.out ?_
            intro v3 w3 ho3 hg3 hb3 hat3
            have hgr : Gr w.heap.size c w3 v3 (out ++ [⟨r, mf, ms, xs⟩]) := HK.out _ w3 v3 hg3 ho3 (by simpa using hat3)
            have hs3 : GrS w1 w3 (.slice Ao out.length co) v3 := by
              refine ⟨(KpS.of HBm.out).trans (KpS.grown (KpS.of (below_alloc' w2 _)) hg3 fun k e => e), ?_⟩
              rcases hat3 with e | e
              · exact .inl e
              · exact .inr ⟨_, e, by have := HBm.out.size; omega⟩
            obtain ⟨O1, hO1⟩ : ∃ O, out ++ [(⟨r, mf, ms, xs⟩ : Ln)] = O := ⟨_, rfl⟩
            have HO1L : Hid (O1.length = out.length + 1) := Lib.hid (by rw [← hO1]; simp)
            rw [hO1] at hgr
            have HO1 := Lib.hid hO1
            have M3 := Lib.hid (M1.out.gro hs3 hgr)
            have BX3 := Lib.hid (BX1.out.step hs3)
            have HB3 := Lib.hid (HB1.out.trans (hs3.toB M1.out.gr))
            obtain ⟨A3, c3, rfl⟩ := hgr.1.opn
            clear ho3 hg3 hb3 hat3 hgr hs3 hO1 HK HOL HLN HBm
            clear p0 p1 p2 p3 lp
            obtain ⟨y0, y1, y2, y3⟩ := M3.out.oo.at1 rfl (j := k) (by rw [how]; exact hlt) rfl
            have M4 := Lib.hid (M3.out.setO (k := k) (by rw [how]; exact hlt) (out.length : Int))
            have HB4 := Lib.hid (HB3.out.setCell (p := ⟨nO, k, none⟩) HNL.out.1 (.int .i64 (out.length : Int)))
            have HLF := Lib.hid (spec_l13Lift M4.out.gr HB4.out (Nat.le_refl _) (out.length : Int) HA.out HX.out hla hlx (by have := HO1L.out; omega))
            go_wp2_with fail
            refine HLF.out.mono ?_
            rintro e w5 ⟨v5, rfl, hg5, hs5⟩
            obtain ⟨O2, hO2⟩ : ∃ O, O1 ++ wkLs a xs O1.length (out.length : Int) = O := ⟨_, rfl⟩
            rw [hO2] at hg5
            have HO2 := Lib.hid hO2
            have M5 := Lib.hid (M4.out.gro hs5 hg5)
            have HB5 := Lib.hid (HB4.out.trans (hs5.toB M4.out.gr))
            obtain ⟨A5, c5, rfl⟩ := hg5.1.opn
            obtain ⟨y, hy9⟩ : ∃ y : Int, ((O1.length + 1 : Nat) : Int) = y := ⟨_, rfl⟩
            have HY : Hid (y = (out.length : Int) + 2) := Lib.hid (by rw [← hy9, HO1L.out]; push_cast; omega)
            rw [hy9]
            clear hg5 hs5 hO2 hy9 HLF
            have HST : Hid (pall a lst P (k + 1) = ⟨O2, se ++ [(out.length : Int)], im ++ [y]⟩) := Lib.hid (by rw [HST0.out, HY.out, ← HO2.out, HO1L.out, ← HO1.out, List.append_assoc]; rfl)
            have HR9 : Hid (DcR ⟨O2, se ++ [(out.length : Int)], im ++ [y]⟩ (flgs P) (k + 1) (ow.set k (out.length : Int)) (lf.set k y)) := Lib.hid (HRR.out.step q1 q2 (by rw [hlf]; exact hlt) _ _ _ _ (fun j hj _ => by rw [getD_set _ _ _ _ (by rw [how]; exact hlt), if_neg (by omega)]) (fun _ => by rw [getD_set _ _ _ _ (by rw [how]; exact hlt), if_pos rfl]))
            have HW9 : Hid ((ow.set k (out.length : Int)).length = P.length) := Lib.hid (by rw [List.length_set]; exact how)
            obtain ⟨z0, z1, z2, z3⟩ := M5.out.ll.at1 rfl (j := k) (by rw [hlf]; exact hlt) rfl
            have M9 := Lib.hid (M5.out.setL (k := k) (by rw [hlf]; exact hlt) y)
            have HB9 := Lib.hid (HB5.out.setCell (p := ⟨nL, k, none⟩) HNL.out.2 (.int .i64 y))
            have HL9 : Hid ((lf.set k y).length = P.length) := Lib.hid (by rw [List.length_set]; exact hlf)
            clear y0 y1 y2 y3
            go_wp2
            go_roundw
            case rel => exact ⟨k + 1, ow.set k (out.length : Int), lf.set k y, by omega, by go_num, by rw [HST.out]; exact M9.out, by rw [HST.out]; exact HR9.out, HW9.out, HL9.out, HB9.out⟩
            case measure => simp [intOf]; omega
          | true =>
            have hz9 : ((nh9 : Int) == 0) = false := by
              have h5 : ((dps P).getD k []).isEmpty = false := by rw [hem0, hem]; rfl
              rw [HEMK.out]
              cases h6 : (dps P).getD k [] with
              | nil => rw [h6] at h5; simp at h5
              | cons x l => simp; omega
            have HEMT : Hid ((flgs P).getD k false = true) := Lib.hid (e1.trans hem)
            clear hfg
            have hst := HPST.out
            rw [hem] at hst
            unfold pstep at hst
            dsimp only at hst
            rcases hdp hem with hr2 | ⟨hr3, hi1, hi2⟩
            · simp only at hr2
              by_cases hfl : f = lst
              · subst hr2
                have hfe : (f == (m : Int)) = true := by rw [hfl, HML.out]; simp
                rw [if_neg (by decide), if_pos rfl, if_pos hfl] at hst
                have HST0 := Lib.hid hst
                clear hst hfl hprm hfs hem hem0
                go_upto_region 21 with fail
                obtain ⟨w1, hw1⟩ : ∃ W, W = wr.alloc (.cells #[.int .i64 2, .int .i64 f, .int .i64 s, .slice Ax xs.length cx] 46) := ⟨_, rfl⟩
                obtain ⟨p, hp⟩ : ∃ p, wr.heap.size = p := ⟨_, rfl⟩
                rw [← hw1] at M1 BX1 HB1 d0 hbd ⊢
                rw [hp] at BX1 ⊢
                clear hw1 hp
                have p0 : w1.cell? ⟨p, 0, none⟩ = some (.int .i64 2) := BX1.out.1.cell 0
                have p1 : w1.cell? ⟨p, 1, none⟩ = some (.int .i64 f) := BX1.out.1.cell 1
                have p2 : w1.cell? ⟨p, 2, none⟩ = some (.int .i64 s) := BX1.out.1.cell 2
                have p3 : w1.cell? ⟨p, 3, none⟩ = some (.slice Ax xs.length cx) := BX1.out.1.cell 3
                have lp := BX1.out.1.lt
                clear l0 l1 l2 l3 hbL' d0 hbd
                have HSF := Lib.hid (spec_l13Self M1.out.gr HB1.out (Nat.le_refl _) HA.out hla (by omega))
                go_wp2_with fail
                refine HSF.out.mono ?_
                rintro e w5 ⟨v5, rfl, hg5, hs5⟩
                obtain ⟨O2, hO2⟩ : ∃ O, out ++ idLs a out.length = O := ⟨_, rfl⟩
                rw [hO2] at hg5
                have HO2 := Lib.hid hO2
                have M5 := Lib.hid (M1.out.gro hs5 hg5)
                have HB5 := Lib.hid (HB1.out.trans (hs5.toB M1.out.gr))
                obtain ⟨A5, c5, rfl⟩ := hg5.1.opn
                obtain ⟨y, hy9⟩ : ∃ y : Int, ((out.length + 4 : Nat) : Int) = y := ⟨_, rfl⟩
                have HY : Hid (y = (out.length : Int) + 4) := Lib.hid (by rw [← hy9]; push_cast; rfl)
                rw [hy9]
                clear hg5 hs5 hO2 hy9 HSF p0 p1 p2 p3 lp
                have HST : Hid (pall a lst P (k + 1) = ⟨O2, se ++ [-1], im ++ [y]⟩) := Lib.hid (by rw [HST0.out, HY.out, ← HO2.out])
                have HR9 : Hid (DcR ⟨O2, se ++ [-1], im ++ [y]⟩ (flgs P) (k + 1) ow (lf.set k y)) := Lib.hid (HRR.out.step q1 q2 (by rw [hlf]; exact hlt) _ _ _ _ (fun j hj _ => rfl) (fun h => by rw [HEMT.out] at h; cases h))
                have HW9 := Lib.hid how
                obtain ⟨z0, z1, z2, z3⟩ := M5.out.ll.at1 rfl (j := k) (by rw [hlf]; exact hlt) rfl
                have M9 := Lib.hid (M5.out.setL (k := k) (by rw [hlf]; exact hlt) y)
                have HB9 := Lib.hid (HB5.out.setCell (p := ⟨nL, k, none⟩) HNL.out.2 (.int .i64 y))
                have HL9 : Hid ((lf.set k y).length = P.length) := Lib.hid (by rw [List.length_set]; exact hlf)

                go_wp2
                go_roundw
                case rel => exact ⟨k + 1, ow, lf.set k y, by omega, by go_num, by rw [HST.out]; exact M9.out, by rw [HST.out]; exact HR9.out, HW9.out, HL9.out, HB9.out⟩
                case measure => simp [intOf]; omega
              · subst hr2
                have hs0 := hfs rfl
                simp only at hs0
                subst hs0
                have hfe : (f == (m : Int)) = false := by rw [← HML.out]; simpa using hfl
                rw [if_neg (by decide), if_pos rfl, if_neg hfl] at hst
                have HST0 := Lib.hid hst
                have HMV := Lib.hid (fun W (hW : Below w.heap.size w W) (hs : Sl cI W (.slice (some ⟨nO, 0, none⟩) P.length P.length) ow) => spec_l13Move ⟨2, f, 0, xs⟩ (.slice Ax xs.length cx) (.slice (some ⟨nO, 0, none⟩) P.length P.length) ow W (HX.out.below hW) hs (fun x hx => by unfold prmL at hx; simp at hx) (by simp only; omega) (by omega))
                have m1 : mvf ow ⟨2, f, 0, xs⟩ = f := by unfold mvf; rw [if_neg (by simp)]
                have m2 : mvs ow ⟨2, f, 0, xs⟩ = 0 := by unfold mvs; rw [if_neg (by simp)]
                rw [m1, m2] at HMV
                clear hst hfl hprm hfs hem hem0 m1 m2
                go_upto_region 21 with fail
                obtain ⟨w1, hw1⟩ : ∃ W, W = wr.alloc (.cells #[.int .i64 2, .int .i64 f, .int .i64 0, .slice Ax xs.length cx] 46) := ⟨_, rfl⟩
                obtain ⟨p, hp⟩ : ∃ p, wr.heap.size = p := ⟨_, rfl⟩
                rw [← hw1] at M1 BX1 HB1 d0 hbd ⊢
                rw [hp] at BX1 ⊢
                clear hw1 hp
                have p0 : w1.cell? ⟨p, 0, none⟩ = some (.int .i64 2) := BX1.out.1.cell 0
                have p1 : w1.cell? ⟨p, 1, none⟩ = some (.int .i64 f) := BX1.out.1.cell 1
                have p2 : w1.cell? ⟨p, 2, none⟩ = some (.int .i64 0) := BX1.out.1.cell 2
                have p3 : w1.cell? ⟨p, 3, none⟩ = some (.slice Ax xs.length cx) := BX1.out.1.cell 3
                have lp := BX1.out.1.lt
                clear l0 l1 l2 l3 hbL' d0 hbd
                replace HMV := Lib.hid (HMV.out w1 HB1.out M1.out.oo.sl)
                go_wp2_with fail
                refine HMV.out.mono ?_
                rintro e w2 ⟨u2, rfl, ho2, hb2⟩
                obtain ⟨A2, c2, rfl⟩ := ho2.opn
                obtain ⟨hs, hoL, hlen, hK⟩ := Gr.push M1.out.gr hb2 ho2 (2, f, 0)
                have HLN := Lib.hid hlen
                have HOL := Lib.hid hoL
                have HK := Lib.hid hK
                have HBm := Lib.hid hb2
                have HZ := Lib.hid (Nat.le_trans M1.out.gr.2.1 hb2.size)
                clear ho2 hb2 hoL hlen hK HMV
                go_wp2_with (at_builtin; refine stopHere ?_)
                refine goHere ?_
                refine ap_one (K := cLn) w2 ty_line rfl _ _ rfl (B := w.heap.size) (v := .slice Ao out.length co) (xs := hs) (by rw [← HLN.out]; rfl) HOL.out ((2, f, 0), ⟨A2, xs.length, c2⟩) rfl rfl (by rw [HLN.out]; omega) HZ.out ?_
                intro v3 w3 ho3 hg3 hb3 hat3
                have hgr : Gr w.heap.size c w3 v3 (out ++ [⟨2, f, 0, xs⟩]) := HK.out _ w3 v3 hg3 ho3 (by simpa using hat3)
                have hs3 : GrS w1 w3 (.slice Ao out.length co) v3 := by
                  refine ⟨(KpS.of HBm.out).trans (KpS.grown (KpS.of (below_alloc' w2 _)) hg3 fun k e => e), ?_⟩
                  rcases hat3 with e | e
                  · exact .inl e
                  · exact .inr ⟨_, e, by have := HBm.out.size; omega⟩
                obtain ⟨O1, hO1⟩ : ∃ O, out ++ [(⟨2, f, 0, xs⟩ : Ln)] = O := ⟨_, rfl⟩
                have HO1L : Hid (O1.length = out.length + 1) := Lib.hid (by rw [← hO1]; simp)
                rw [hO1] at hgr
                have HO1 := Lib.hid hO1
                have M3 := Lib.hid (M1.out.gro hs3 hgr)
                have BX3 := Lib.hid (BX1.out.step hs3)
                have HB3 := Lib.hid (HB1.out.trans (hs3.toB M1.out.gr))
                obtain ⟨A3, c3, rfl⟩ := hgr.1.opn
                clear ho3 hg3 hb3 hat3 hgr hs3 hO1 HK HOL HLN HBm
                clear p0 p1 p2 p3 lp
                have HLF := Lib.hid (spec_l13Lift M3.out.gr HB3.out (Nat.le_refl _) (out.length : Int) HA.out HX.out hla hlx (by have := HO1L.out; omega))
                go_wp2_with fail
                refine HLF.out.mono ?_
                rintro e w5 ⟨v5, rfl, hg5, hs5⟩
                obtain ⟨O2, hO2⟩ : ∃ O, O1 ++ wkLs a xs O1.length (out.length : Int) = O := ⟨_, rfl⟩
                rw [hO2] at hg5
                have HO2 := Lib.hid hO2
                have M5 := Lib.hid (M3.out.gro hs5 hg5)
                have HB5 := Lib.hid (HB3.out.trans (hs5.toB M3.out.gr))
                obtain ⟨A5, c5, rfl⟩ := hg5.1.opn
                obtain ⟨y, hy9⟩ : ∃ y : Int, ((O1.length + 1 : Nat) : Int) = y := ⟨_, rfl⟩
                have HY : Hid (y = (out.length : Int) + 2) := Lib.hid (by rw [← hy9, HO1L.out]; push_cast; omega)
                rw [hy9]
                clear hg5 hs5 hO2 hy9 HLF
                have HST : Hid (pall a lst P (k + 1) = ⟨O2, se ++ [(out.length : Int)], im ++ [y]⟩) := Lib.hid (by rw [HST0.out, HY.out, ← HO2.out, HO1L.out, ← HO1.out, List.append_assoc]; rfl)
                have HR9 : Hid (DcR ⟨O2, se ++ [(out.length : Int)], im ++ [y]⟩ (flgs P) (k + 1) ow (lf.set k y)) := Lib.hid (HRR.out.step q1 q2 (by rw [hlf]; exact hlt) _ _ _ _ (fun j hj _ => rfl) (fun h => by rw [HEMT.out] at h; cases h))
                have HW9 := Lib.hid how
                obtain ⟨z0, z1, z2, z3⟩ := M5.out.ll.at1 rfl (j := k) (by rw [hlf]; exact hlt) rfl
                have M9 := Lib.hid (M5.out.setL (k := k) (by rw [hlf]; exact hlt) y)
                have HB9 := Lib.hid (HB5.out.setCell (p := ⟨nL, k, none⟩) HNL.out.2 (.int .i64 y))
                have HL9 : Hid ((lf.set k y).length = P.length) := Lib.hid (by rw [List.length_set]; exact hlf)

                go_wp2
                go_roundw
                case rel => exact ⟨k + 1, ow, lf.set k y, by omega, by go_num, by rw [HST.out]; exact M9.out, by rw [HST.out]; exact HR9.out, HW9.out, HL9.out, HB9.out⟩
                case measure => simp [intOf]; omega
            · simp only at hr3 hi1 hi2
              subst hr3
              obtain ⟨i1, rfl, hi1'⟩ := inR_nat hi1
              obtain ⟨i2, rfl, hi2'⟩ := inR_nat hi2
              rw [if_neg (by decide), if_neg (by decide)] at hst
              have hi2P : i2 < P.length := by omega
              have g1 : P.getD ((i2 : Int)).toNat ln0 = P[i2]'hi2P := by rw [Int.toNat_natCast, List.getD_eq_getElem?_getD, List.getElem?_eq_getElem hi2P]; rfl
              rw [g1] at hst
              simp only [Int.toNat_natCast] at hst
              obtain ⟨bL2, oL2, Ad2, cd2, eA, hbL2, -, -, -, m3, hsd⟩ := HPA.out.at_ hi2P
              injection eA with eA
              injection eA with eA1 eA2
              subst eA1 eA2
              have hld := fine_len (HF.out i2 hi2P)
              obtain ⟨ds, hds⟩ : ∃ x, (P[i2]'hi2P).x = x := ⟨_, rfl⟩
              rw [hds] at m3 hsd hst hld
              have HD := Lib.hid hsd
              rw [← HRR.out.lf_ i1 hi1', ← HRR.out.lf_ i2 hi2'] at hst
              have gg1 : lf.getD i1 0 = lf[i1]'(by omega) := by rw [List.getD_eq_getElem?_getD, List.getElem?_eq_getElem (by omega)]; rfl
              have gg2 : lf.getD i2 0 = lf[i2]'(by omega) := by rw [List.getD_eq_getElem?_getD, List.getElem?_eq_getElem (by omega)]; rfl
              obtain ⟨y1, hy1⟩ : ∃ y, lf.getD i1 0 = y := ⟨_, rfl⟩
              obtain ⟨y2, hy2⟩ : ∃ y, lf.getD i2 0 = y := ⟨_, rfl⟩
              rw [hy1, hy2] at hst
              have HY1 : Hid (lf[i1]'(by omega) = y1) := Lib.hid (gg1.symm.trans hy1)
              have HY2 : Hid (lf[i2]'(by omega) = y2) := Lib.hid (gg2.symm.trans hy2)
              obtain ⟨AD, hAD⟩ : ∃ X, [((4 : Int), (0 : Int))] ++ a ++ ds = X := ⟨_, rfl⟩
              obtain ⟨AC, hAC⟩ : ∃ X, [((4 : Int), (0 : Int))] ++ a ++ xs = X := ⟨_, rfl⟩
              obtain ⟨X1, hX1⟩ : ∃ X, [((4 : Int), (0 : Int))] ++ ds ++ xs = X := ⟨_, rfl⟩
              obtain ⟨WW, hWW⟩ : ∃ X, [((4 : Int), (0 : Int))] ++ a ++ X1 = X := ⟨_, rfl⟩
              obtain ⟨DC, hDC⟩ : ∃ X, [((4 : Int), (0 : Int))] ++ AD ++ AC = X := ⟨_, rfl⟩
              obtain ⟨F1, hF1⟩ : ∃ X, [((4 : Int), (0 : Int))] ++ WW ++ DC = X := ⟨_, rfl⟩
              have HLS : Hid (AD.length ≤ 81 ∧ AC.length ≤ 81 ∧ X1.length ≤ 81 ∧ WW.length ≤ 122 ∧ DC.length ≤ 163 ∧ F1.length ≤ 286) := Lib.hid (by
                have e1 : AD.length ≤ 81 := by rw [← hAD]; simp; omega
                have e2 : AC.length ≤ 81 := by rw [← hAC]; simp; omega
                have e3 : X1.length ≤ 81 := by rw [← hX1]; simp; omega
                have e4 : WW.length ≤ 122 := by rw [← hWW]; simp; omega
                have e5 : DC.length ≤ 163 := by rw [← hDC]; simp; omega
                exact ⟨e1, e2, e3, e4, e5, by rw [← hF1]; simp; omega⟩)
              have HAD := Lib.hid hAD
              have HAC := Lib.hid hAC
              have HX1 := Lib.hid hX1
              have HWW := Lib.hid hWW
              have HDC := Lib.hid hDC
              have HF1 := Lib.hid hF1
              have HBL2 := Lib.hid hbL2
              have HST0 := Lib.hid hst
              have HM3 := Lib.hid m3
              clear hst hprm hfs hem hem0 g1 gg1 gg2 hy1 hy2 hds hsd hAD hAC hX1 hWW hDC hF1 m3 hi1 hi2
              go_upto_region 21 with fail
              obtain ⟨w1, hw1⟩ : ∃ W, W = wr.alloc (.cells #[.int .i64 3, .int .i64 (i1 : Int), .int .i64 (i2 : Int), .slice Ax xs.length cx] 46) := ⟨_, rfl⟩
              obtain ⟨p, hp⟩ : ∃ p, wr.heap.size = p := ⟨_, rfl⟩
              rw [← hw1] at M1 BX1 HB1 d0 hbd ⊢
              rw [hp] at BX1 ⊢
              clear hw1 hp
              have p0 : w1.cell? ⟨p, 0, none⟩ = some (.int .i64 3) := BX1.out.1.cell 0
              have p1 : w1.cell? ⟨p, 1, none⟩ = some (.int .i64 (i1 : Int)) := BX1.out.1.cell 1
              have p2 : w1.cell? ⟨p, 2, none⟩ = some (.int .i64 (i2 : Int)) := BX1.out.1.cell 2
              have p3 : w1.cell? ⟨p, 3, none⟩ = some (.slice Ax xs.length cx) := BX1.out.1.cell 3
              have lp := BX1.out.1.lt
              clear l0 l1 l2 l3 hbL' d0 hbd
              have m3 : w1.cell? ⟨bL, oL + i2 * 4 + 3, none⟩ = some (.slice Ad2 ds.length cd2) := (HB1.out.cell (p := ⟨bL, oL + i2 * 4 + 3, none⟩) HBL2.out).trans HM3.out
              have lL : bL < w1.heap.size := Nat.lt_of_lt_of_le HBL2.out HB1.out.size
              go_upto_region 10 with fail
              clear p0 p1 p2 p3 lp m3 lL hbL2
              have I1 := Lib.hid (spec_l13Imply _ _ a ds w1 (HA.out.below HB1.out) (HD.out.below HB1.out) (by have := HLS.out; omega) (by have := HLS.out; omega))
              rw [HAD.out] at I1
              go_wp2_with fail
              refine I1.out.mono ?_
              rintro e w2 ⟨u1, rfl, ho1, hb1⟩
              obtain ⟨A1, c1, rfl⟩ := ho1.opn
              have WD2 := Lib.hid (Wt.mk' M1.out.gr ho1)
              have M2 := Lib.hid (M1.out.below hb1)
              have BX2 := Lib.hid (BX1.out.below hb1)
              have HB2 := Lib.hid (HB1.out.trans (hb1.mono HB1.out.size))
              clear ho1 hb1 I1 M1 BX1
              have I2 := Lib.hid (spec_l13Imply _ _ a xs w2 (HA.out.below HB2.out) (HX.out.below HB2.out) (by have := HLS.out; omega) (by have := HLS.out; omega))
              rw [HAC.out] at I2
              go_wp2_with fail
              refine I2.out.mono ?_
              rintro e w3 ⟨u2, rfl, ho2, hb2⟩
              obtain ⟨A2, c2, rfl⟩ := ho2.opn
              have WC3 := Lib.hid (Wt.mk' M2.out.gr ho2)
              have WD3 := Lib.hid (WD2.out.below hb2)
              have M3 := Lib.hid (M2.out.below hb2)
              have BX3 := Lib.hid (BX2.out.below hb2)
              have HB3 := Lib.hid (HB2.out.trans (hb2.mono HB2.out.size))
              clear ho2 hb2 I2 M2 BX2 WD2 HB2
              have I3 := Lib.hid (spec_l13Imply _ _ ds xs w3 (HD.out.below HB3.out) (HX.out.below HB3.out) (by have := HLS.out; omega) (by have := HLS.out; omega))
              rw [HX1.out] at I3
              go_wp2_with fail
              refine I3.out.mono ?_
              rintro e w4 ⟨u3, rfl, ho3, hb3⟩
              obtain ⟨A3, c3, rfl⟩ := ho3.opn
              have WC4 := Lib.hid (WC3.out.below hb3)
              have WD4 := Lib.hid (WD3.out.below hb3)
              have M4 := Lib.hid (M3.out.below hb3)
              have BX4 := Lib.hid (BX3.out.below hb3)
              have HB4 := Lib.hid (HB3.out.trans (hb3.mono HB3.out.size))
              have I4 := Lib.hid (spec_l13Imply _ _ a X1 w4 (HA.out.below HB4.out) ho3.sl (by have := HLS.out; omega) (by have := HLS.out; omega))
              rw [HWW.out] at I4
              clear ho3 hb3 I3 M3 BX3 WD3 WC3 HB3
              go_wp2_with fail
              refine I4.out.mono ?_
              rintro e w5 ⟨u4, rfl, ho4, hb4⟩
              obtain ⟨A4, c4, rfl⟩ := ho4.opn
              have WW5 := Lib.hid (Wt.mk' M4.out.gr ho4)
              have WC5 := Lib.hid (WC4.out.below hb4)
              have WD5 := Lib.hid (WD4.out.below hb4)
              have M5 := Lib.hid (M4.out.below hb4)
              have BX5 := Lib.hid (BX4.out.below hb4)
              have HB5 := Lib.hid (HB4.out.trans (hb4.mono HB4.out.size))
              have I5 := Lib.hid (spec_l13Imply _ _ AD AC w5 WD5.out.1.sl WC5.out.1.sl (by have := HLS.out; omega) (by have := HLS.out; omega))
              rw [HDC.out] at I5
              clear ho4 hb4 I4 M4 BX4 WD4 WC4 HB4
              go_wp2_with fail
              refine I5.out.mono ?_
              rintro e w6 ⟨u5, rfl, ho5, hb5⟩
              obtain ⟨A5, c5, rfl⟩ := ho5.opn
              have WW6 := Lib.hid (WW5.out.below hb5)
              have WC6 := Lib.hid (WC5.out.below hb5)
              have WD6 := Lib.hid (WD5.out.below hb5)
              have M6 := Lib.hid (M5.out.below hb5)
              have BX6 := Lib.hid (BX5.out.below hb5)
              have HB6 := Lib.hid (HB5.out.trans (hb5.mono HB5.out.size))
              have I6 := Lib.hid (spec_l13Imply _ _ WW DC w6 WW6.out.1.sl ho5.sl (by have := HLS.out; omega) (by have := HLS.out; omega))
              rw [HF1.out] at I6
              clear ho5 hb5 I5 M5 BX5 WD5 WC5 WW5 HB5
              go_wp2_with fail
              refine I6.out.mono ?_
              rintro e w7 ⟨u6, rfl, ho6, hb6⟩
              obtain ⟨A6, c6, rfl⟩ := ho6.opn
              have WC7 := Lib.hid (WC6.out.below hb6)
              have WD7 := Lib.hid (WD6.out.below hb6)
              have M7 := Lib.hid (M6.out.below hb6)
              have BX7 := Lib.hid (BX6.out.below hb6)
              have HB7 := Lib.hid (HB6.out.trans (hb6.mono HB6.out.size))
              have P7 := Lib.hid (spec_l13Put M7.out.gr 1 1 0 ho6.sl (by have := HLS.out; omega) (by omega))
              clear ho6 hb6 I6 M6 BX6 WD6 WC6 WW6 HB6
              go_wp2_with fail
              refine P7.out.mono ?_
              rintro e w8 ⟨v8, rfl, hg8, hs8⟩
              obtain ⟨O1, hO1⟩ : ∃ O, out ++ [(⟨1, 1, 0, F1⟩ : Ln)] = O := ⟨_, rfl⟩
              have HO1L : Hid (O1.length = out.length + 1) := Lib.hid (by rw [← hO1]; simp)
              rw [hO1] at hg8
              have HO1 := Lib.hid hO1
              have M8 := Lib.hid (M7.out.gro hs8 hg8)
              have BX8 := Lib.hid (BX7.out.step hs8)
              have WC8 := Lib.hid (WC7.out.step hs8)
              have WD8 := Lib.hid (WD7.out.step hs8)
              have HB8 := Lib.hid (HB7.out.trans (hs8.toB M7.out.gr))
              obtain ⟨A8, c8, rfl⟩ := hg8.1.opn
              clear hg8 hs8 hO1 P7 M7 BX7 WC7 WD7 HB7
              go_upto_region 14 with fail
              have hbd8 : Below w8.heap.size w8 w8.drew := (Below.refl _ _).drew
              have M9 := Lib.hid (M8.out.below hbd8)
              have BX9 := Lib.hid (BX8.out.below hbd8)
              have WC9 := Lib.hid (WC8.out.below hbd8)
              have WD9 := Lib.hid (WD8.out.below hbd8)
              have HB9 := Lib.hid (HB8.out.trans (hbd8.mono HB8.out.size))
              obtain ⟨cs, hcs⟩ : ∃ cs : Array Value, cs = #[.int .i64 3, .int .i64 (i1 : Int), .int .i64 (i2 : Int), .slice Ax xs.length cx] := ⟨_, rfl⟩
              rw [← hcs] at BX9
              have HCS := Lib.hid hcs
              obtain ⟨u0, -, -, ul⟩ := M9.out.ll.at1 rfl (j := i1) (by rw [hlf]; omega) rfl
              rw [HY1.out] at u0
              have i9 : Blk w8.drew p 46 cs ∧ w8.drew.cell? ⟨nL, i1, none⟩ = some (.int .i64 y1) ∧ nL < w8.drew.heap.size := ⟨BX9.out.1, u0, ul⟩
              clear hbd8 hcs u0 ul M8 BX8 WC8 WD8 HB8
              refine wp_region_sched (fun X => Blk X p 46 cs ∧ X.cell? ⟨nL, i1, none⟩ = some (.int .i64 y1) ∧ nL < X.heap.size) 16 [0, 1, 2, 3, 4, 5, 6, 7, 8, 11, 12, 13, 14, 15] [0, 1, 2, 3, 4, 5, 6, 7, 8, 9, 10, 11, 12, 13, 14, 15] (by kernel_rfl) (by kernel_rfl) i9 ?_
              obtain ⟨w9, hw9⟩ : ∃ W, W = w8.drew := ⟨_, rfl⟩
              rw [← hw9] at M9 BX9 WC9 WD9 HB9 i9 ⊢
              clear hw9
              have hi1l : i1 < P.length := by omega
              repeat
                apply wpSched_q rfl rfl
                case h =>
                  intro w' hI K hK
                  have z1 : w'.cell? ⟨p, 1, none⟩ = some (.int .i64 (i1 : Int)) := (hI.1.cell 1).trans (by rw [HCS.out]; rfl)
                  have zl := hI.1.lt
                  have z5 := hI.2.1
                  have z6 := hI.2.2
                  simp only [quietV, stillV]
                  go_simp
                  exact hK
                go_simp
              have I9 := Lib.hid (spec_l13Imply _ _ AD AC w9 WD9.out.1.sl WC9.out.1.sl (by have := HLS.out; omega) (by have := HLS.out; omega))
              rw [HDC.out] at I9
              refine wpSched_r rfl rfl ?_ i9
              intro K hK hI
              go_simp
              refine I9.out.mono ?_
              rintro e w10 ⟨u10, rfl, ho10, hb10⟩
              obtain ⟨A10, c10, rfl⟩ := ho10.opn
              have M10 := Lib.hid (M9.out.below hb10)
              have BX10 := Lib.hid (BX9.out.below hb10)
              have WC10 := Lib.hid (WC9.out.below hb10)
              have HB10 := Lib.hid (HB9.out.trans (hb10.mono HB9.out.size))
              have i10 : Blk w10 p 46 cs ∧ w10.cell? ⟨nL, i1, none⟩ = some (.int .i64 y1) ∧ nL < w10.heap.size := ⟨BX10.out.1, (hb10.cell (p := ⟨nL, i1, none⟩) i9.2.2).trans i9.2.1, Nat.lt_of_lt_of_le i9.2.2 hb10.size⟩
              have P10 := Lib.hid (spec_l13Put M10.out.gr 3 (out.length : Int) y1 ho10.sl (by have := HLS.out; omega) (by have := HO1L.out; omega))
              refine hK _ _ i10 ?_
              clear hK K hI ho10 hb10 I9 M9 BX9 WC9 WD9 HB9 i9
              refine wpSched_r rfl rfl ?_ i10
              intro K hK hI
              go_simp
              refine P10.out.mono ?_
              rintro e w11 ⟨v11, rfl, hg11, hs11⟩
              obtain ⟨O2, hO2⟩ : ∃ O, O1 ++ [(⟨3, (out.length : Int), y1, DC⟩ : Ln)] = O := ⟨_, rfl⟩
              have HO2L : Hid (O2.length = out.length + 2) := Lib.hid (by rw [← hO2, List.length_append, HO1L.out]; rfl)
              rw [hO2] at hg11
              have HO2 := Lib.hid hO2
              have M11 := Lib.hid (M10.out.gro hs11 hg11)
              have BX11 := Lib.hid (BX10.out.step hs11)
              have WC11 := Lib.hid (WC10.out.step hs11)
              have HB11 := Lib.hid (HB10.out.trans (hs11.toB M10.out.gr))
              obtain ⟨A11, c11, rfl⟩ := hg11.1.opn
              obtain ⟨x0, -, -, xl⟩ := M11.out.ll.at1 rfl (j := i1) (by rw [hlf]; omega) rfl
              rw [HY1.out] at x0
              obtain ⟨q9, hq9⟩ : ∃ q : Int, (O1.length : Int) = q := ⟨_, rfl⟩
              have HQ9 : Hid (q9 = ((out.length + 1 : Nat) : Int)) := Lib.hid (by rw [← hq9, HO1L.out])
              rw [hq9]
              have i11 : Blk w11 p 46 cs ∧ w11.cell? ⟨nL, i1, none⟩ = some (.int .i64 y1) ∧ nL < w11.heap.size := ⟨BX11.out.1, x0, xl⟩
              refine hK _ _ i11 ?_
              clear hK K hI hg11 hs11 hO2 P10 M10 BX10 WC10 HB10 i10 hq9
              repeat
                apply wpSched_q rfl rfl
                case h =>
                  intro w' hI K hK
                  have z1 := hI.2.2
                  simp only [quietV, stillV]
                  go_simp
                  exact hK
                go_simp
              refine wpSched_nil ?_
              try simp only [List.drop_succ_cons, List.drop_zero, List.drop_nil]
              have p2 : w11.cell? ⟨p, 2, none⟩ = some (.int .i64 (i2 : Int)) := (BX11.out.1.cell 2).trans (by rw [HCS.out]; rfl)
              have lp := BX11.out.1.lt
              obtain ⟨t0, -, -, tl⟩ := M11.out.ll.at1 rfl (j := i2) (by rw [hlf]; omega) rfl
              rw [HY2.out] at t0
              have P11 := Lib.hid (spec_l13Put M11.out.gr 3 q9 y2 WC11.out.1.sl (by have := HLS.out; omega) (by have := HO2L.out; omega))
              clear x0 xl i11
              go_wp2_with fail
              refine P11.out.mono ?_
              rintro e w12 ⟨v12, rfl, hg12, hs12⟩
              obtain ⟨O3, hO3⟩ : ∃ O, O2 ++ [(⟨3, q9, y2, AC⟩ : Ln)] = O := ⟨_, rfl⟩
              rw [hO3] at hg12
              have HO3 := Lib.hid hO3
              have M12 := Lib.hid (M11.out.gro hs12 hg12)
              have HB12 := Lib.hid (HB11.out.trans (hs12.toB M11.out.gr))
              obtain ⟨A12, c12, rfl⟩ := hg12.1.opn
              obtain ⟨y, hy9⟩ : ∃ y : Int, (O2.length : Int) = y := ⟨_, rfl⟩
              have HY : Hid (y = (out.length : Int) + 2) := Lib.hid (by rw [← hy9, HO2L.out]; push_cast; omega)
              rw [hy9]
              clear hg12 hs12 hO3 hy9 P11 p2 lp t0 tl
              have HST : Hid (pall a lst P (k + 1) = ⟨O3, se ++ [-1], im ++ [y]⟩) := Lib.hid (by
                rw [HST0.out, HY.out, ← HO3.out, ← HO2.out, ← HO1.out, HQ9.out]
                unfold dtLs
                dsimp only
                rw [HAD.out, HAC.out, HX1.out, HWW.out, HDC.out, HF1.out]
                simp [List.append_assoc])
              have HR9 : Hid (DcR ⟨O3, se ++ [-1], im ++ [y]⟩ (flgs P) (k + 1) ow (lf.set k y)) := Lib.hid (HRR.out.step q1 q2 (by rw [hlf]; exact hlt) _ _ _ _ (fun j hj _ => rfl) (fun h => by rw [HEMT.out] at h; cases h))
              have HW9 := Lib.hid how
              obtain ⟨z0, z1, z2, z3⟩ := M12.out.ll.at1 rfl (j := k) (by rw [hlf]; exact hlt) rfl
              have M9 := Lib.hid (M12.out.setL (k := k) (by rw [hlf]; exact hlt) y)
              have HB9 := Lib.hid (HB12.out.setCell (p := ⟨nL, k, none⟩) HNL.out.2 (.int .i64 y))
              have HL9 : Hid ((lf.set k y).length = P.length) := Lib.hid (by rw [List.length_set]; exact hlf)

              go_wp2
              go_roundw
              case rel => exact ⟨k + 1, ow, lf.set k y, by omega, by go_num, by rw [HST.out]; exact M9.out, by rw [HST.out]; exact HR9.out, HW9.out, HL9.out, HB9.out⟩
              case measure => simp [intOf]; omega
        · obtain rfl : k = P.length := by omega
          have HR9 : Hid (ObL w.heap.size wr.heap.size wr (.slice Ao (pall a lst P P.length).out.length co) (disL a lst P)) := Lib.hid hmm.gr.1.obL
          clear hmm hrr hb HM HRR
          generalize (pall a lst P P.length).out.length = n9 at *
          go_wp2
          go_ret
          exact ⟨_, rfl, HR9.out, HB.out⟩
end Go.Proofs.YtcikenffeekkeaaGreatDoor
