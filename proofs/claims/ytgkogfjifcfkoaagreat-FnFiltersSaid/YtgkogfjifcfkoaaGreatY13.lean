/- Heyting algebras: owned tables, and comparison of tables by the reference. -/
import Derived.Test.YtgkogfjifcfkoaaGreatY12
namespace Go.Proofs.YtgkogfjifcfkoaaGreat
open Go.RowKit
set_option linter.unusedVariables false
set_option linter.unusedSimpArgs false
/-- a table of the call's own: the row of headers and each row lie in blocks from B on -/
def OwT (B : Nat) (w : World) (v : Value) (xss : List (List Int)) : Prop :=
  ∃ hs : List Hd, Ow cH 27 B w v hs ∧ hs.length = xss.length ∧
    ∀ i (a : i < hs.length) (b : i < xss.length), Ow cI 2 B w hs[i].val xss[i] ∧ (hs[i].val.ownBlock = none ∨ hs[i].val.ownBlock ≠ v.ownBlock)
theorem OwT.sl2 {B : Nat} {w : World} {v : Value} {xss : List (List Int)} (h : OwT B w v xss) : Sl2 cI w v xss := by
  obtain ⟨hs, h1, h2, h3⟩ := h
  exact ⟨hs, h1.sl, h2, fun i a b => (h3 i a b).1.sl⟩
theorem OwT.below {B : Nat} {w w' : World} {v : Value} {xss : List (List Int)} (h : OwT B w v xss) (hb : Below w.heap.size w w') : OwT B w' v xss := by
  obtain ⟨hs, h1, h2, h3⟩ := h
  exact ⟨hs, h1.below hb, h2, fun i a b => ⟨(h3 i a b).1.below hb, (h3 i a b).2⟩⟩
theorem OwT.setBelow {B : Nat} {w : World} {v : Value} {xss : List (List Int)} (h : OwT B w v xss) {p : Addr} (hp : p.block < B) (u : Value) : OwT B (w.setCell p u) v xss := by
  obtain ⟨hs, h1, h2, h3⟩ := h
  exact ⟨hs, h1.setBelow hp u, h2, fun i a b => ⟨(h3 i a b).1.setBelow hp u, (h3 i a b).2⟩⟩
theorem OwT.mono {B B' : Nat} {w : World} {v : Value} {xss : List (List Int)} (h : OwT B w v xss) (hB : B' ≤ B) : OwT B' w v xss := by
  obtain ⟨hs, h1, h2, h3⟩ := h
  exact ⟨hs, h1.mono hB, h2, fun i a b => ⟨(h3 i a b).1.mono hB, (h3 i a b).2⟩⟩
theorem OwT.nil (B : Nat) (w : World) : OwT B w (.slice none 0 0) [] := ⟨[], Ow.nil _ _, rfl, fun i a => by simp at a⟩
/-- a table to which one row is put, its row of headers in a new block -/
theorem OwT.more {B : Nat} {w w' : World} {v' : Value} {xss : List (List Int)} {hs : List Hd} {hd : Hd} {xs : List Int}
    (h2 : hs.length = xss.length) (h3 : ∀ i (a : i < hs.length) (b : i < xss.length), Ow cI 2 B w hs[i].val xss[i])
    (hu : Ow cI 2 B w hd.val xs) (ho : Ow cH 27 B w' v' (hs ++ [hd])) (hb : Below w.heap.size w w')
    (hv : ∀ k, v'.ownBlock = some k → w.heap.size ≤ k) : OwT B w' v' (xss ++ [xs]) := by
  have key : ∀ (u : Value) (ys : List Int), Ow cI 2 B w u ys → Ow cI 2 B w' u ys ∧ (u.ownBlock = none ∨ u.ownBlock ≠ v'.ownBlock) := by
    intro u ys hu
    refine ⟨hu.below hb, ?_⟩
    cases hq : u.ownBlock with
    | none => exact .inl rfl
    | some k =>
      refine .inr fun e => ?_
      have h1 := (hu.block k hq).2
      have h2 := hv k e.symm
      omega
  refine ⟨hs ++ [hd], ho, by simp [h2], fun i a b => ?_⟩
  by_cases hi : i < hs.length
  · rw [List.getElem_append_left hi, List.getElem_append_left (by omega)]
    exact key _ _ (h3 i hi (by omega))
  · have e : i = hs.length := by simp at a; omega
    subst e
    have e2 : (xss ++ [xs])[hs.length] = xs := by
      rw [List.getElem_append_right (by omega)]; simp [h2]
    rw [e2]
    have e3 : (hs ++ [hd])[hs.length] = hd := by simp
    rw [e3]
    exact key _ _ hu
set_option maxRecDepth 100000 in
theorem spec_l01Same9 (v u : Value) (xs ys : List Int) (w : World) (h : Sl cI w v xs) (h' : Sl cI w u ys) (hl : xs.length ≤ 1048576) (hl' : ys.length ≤ 1048576) :
    Calls Tryz.prog 202 #[v, u] w fun e w' => e = .returned (.bool (decide (xs = ys))) ∧ Below w.heap.size w w' := by
  obtain ⟨A0, c0, rfl⟩ := h.opn
  obtain ⟨A1, c1, rfl⟩ := h'.opn
  by_cases hq : xs.length = ys.length
  · have ET : Hid ((∀ i (a : i < xs.length) (b : i < ys.length), xs[i] = ys[i]) → xs = ys) := Lib.hid (fun hh => List.ext_getElem hq hh)
    have EF : Hid (∀ i (a : i < xs.length) (b : i < ys.length), xs[i] ≠ ys[i] → ¬ xs = ys) := Lib.hid (fun i a b hn he => hn (by subst he; rfl))
    have HX := Lib.hid h
    have HY := Lib.hid h'
    have q1 : ((xs.length : Int) == (ys.length : Int)) = true := beq_iff_eq.2 (by omega)
    have q2 : ((xs.length : Int) != (ys.length : Int)) = false := by rw [bne, q1]; rfl
    have HQ := Lib.hid hq
    clear h h' hq
    go_enter Tryz.func202, Tryz.ntmps202
    go_wp2
    go_loopw [5] (fun i wr => ∃ x : Nat, x ≤ xs.length ∧ i = .int .i64 x ∧ (∀ i (a : i < xs.length) (b : i < ys.length), i < x → xs[i] = ys[i]) ∧ Below w.heap.size w wr) (fun i _ => xs.length - (intOf i).toNat)
    case atStart => exact ⟨0, Nat.zero_le _, rfl, fun i _ _ hi => by omega, Below.refl _ _⟩
    case round =>
      obtain ⟨x, hx, rfl, hh, hb⟩ := hrel
      obtain ⟨w2, hw2⟩ : ∃ W, W = wr := ⟨_, rfl⟩
      subst hw2
      have HH := Lib.hid hh
      have HB := Lib.hid hb
      by_cases hlt : x < xs.length
      · have hlt2 : x < ys.length := by rw [← HQ.out]; exact hlt
        obtain ⟨b, o, rfl, hbl, hcx⟩ := (HX.out.below hb).atI (k := x) hlt
        obtain ⟨d, q, rfl, hdl, hdx⟩ := (HY.out.below hb).atI (k := x) hlt2
        have HFx := Lib.hid (EF.out x hlt hlt2)
        have HN : Hid (xs[x] = ys[x] → ∀ i (a : i < xs.length) (b : i < ys.length), i < x + 1 → xs[i] = ys[i]) := Lib.hid (fun hk i a b hi => by
          rcases Nat.lt_or_ge i x with h1 | h1
          · exact HH.out i a b h1
          · obtain rfl : i = x := by omega
            exact hk)
        generalize ys[x] = k at *
        generalize xs[x] = m at *
        clear hh hb
        by_cases hmk : m = k
        · have E := Lib.hid (HN.out hmk)
          have r1 : (m != k) = false := by rw [hmk]; simp
          clear hmk
          go_wp2
          go_quiet (fail)
          go_wp2
          exact ⟨⟨x + 1, by omega, by go_num, E.out, below_drewN HB.out _⟩, by simp [intOf]; omega⟩
        · have E := Lib.hid (decide_eq_false (HFx.out hmk))
          have r1 : (m != k) = true := bne_iff_ne.2 hmk
          clear hmk
          go_wp2
          go_quiet (fail)
          go_wp2
          go_ret
          exact ⟨by rw [E.out]; rfl, below_drewN HB.out _⟩
      · obtain rfl : x = xs.length := by omega
        have E := Lib.hid (decide_eq_true (ET.out fun i a b => HH.out i a b a))
        clear hh hb
        go_wp2
        go_ret
        exact ⟨by rw [E.out]; rfl, HB.out⟩
  · have E : Hid (decide (xs = ys) = false) := Lib.hid (decide_eq_false fun he => hq (by rw [he]))
    have q1 : ((xs.length : Int) == (ys.length : Int)) = false := beq_eq_false_iff_ne.2 (by omega)
    have q2 : ((xs.length : Int) != (ys.length : Int)) = true := bne_iff_ne.2 (by omega)
    clear h h' hq
    go_enter Tryz.func202, Tryz.ntmps202
    go_wp2
    go_ret
    exact ⟨by rw [E.out]; rfl, Below.refl _ _⟩
set_option maxRecDepth 100000 in
theorem spec_l01Same2 (v u : Value) (X Y : List (List Int)) (w : World) (h : Sl2 cI w v X) (h' : Sl2 cI w u Y) (hl : X.length ≤ 1048576) (hl' : Y.length ≤ 1048576) (hr : ∀ r ∈ X, r.length ≤ 1048576) (hr' : ∀ r ∈ Y, r.length ≤ 1048576) :
    Calls Tryz.prog 163 #[v, u] w fun e w' => e = .returned (.bool (decide (X = Y))) ∧ Below w.heap.size w w' := by
  obtain ⟨A0, c0, rfl⟩ := h.opn
  obtain ⟨A1, c1, rfl⟩ := h'.opn
  by_cases hq : X.length = Y.length
  · have ET : Hid ((∀ i (a : i < X.length) (b : i < Y.length), X[i] = Y[i]) → X = Y) := Lib.hid (fun hh => List.ext_getElem hq hh)
    have EF : Hid (∀ i (a : i < X.length) (b : i < Y.length), X[i] ≠ Y[i] → ¬ X = Y) := Lib.hid (fun i a b hn he => hn (by subst he; rfl))
    have HX := Lib.hid h
    have HY := Lib.hid h'
    have HRX := Lib.hid (fun i (a : i < X.length) => hr _ (List.getElem_mem a))
    have HRY := Lib.hid (fun i (a : i < Y.length) => hr' _ (List.getElem_mem a))
    have q1 : ((X.length : Int) == (Y.length : Int)) = true := beq_iff_eq.2 (by omega)
    have q2 : ((X.length : Int) != (Y.length : Int)) = false := by rw [bne, q1]; rfl
    have HQ := Lib.hid hq
    clear h h' hq hr hr'
    go_enter Tryz.func163, Tryz.ntmps163
    go_wp2
    go_loopw [5] (fun i wr => ∃ x : Nat, x ≤ X.length ∧ i = .int .i64 x ∧ (∀ i (a : i < X.length) (b : i < Y.length), i < x → X[i] = Y[i]) ∧ Below w.heap.size w wr) (fun i _ => X.length - (intOf i).toNat)
    case atStart => exact ⟨0, Nat.zero_le _, rfl, fun i _ _ hi => by omega, Below.refl _ _⟩
    case round =>
      obtain ⟨x, hx, rfl, hh, hb⟩ := hrel
      obtain ⟨w2, hw2⟩ : ∃ W, W = wr := ⟨_, rfl⟩
      subst hw2
      have HH := Lib.hid hh
      have HB := Lib.hid hb
      by_cases hlt : x < X.length
      · have hlt2 : x < Y.length := by rw [← HQ.out]; exact hlt
        obtain ⟨b, o, Aj, nj, cj, rfl, hbl, hcx, hsx⟩ := (HX.out.below hb).at_ (k := x) hlt
        obtain ⟨d, q, Ak, nk, ck, rfl, hdl, hdx, hsy⟩ := (HY.out.below hb).at_ (k := x) hlt2
        have HFx := Lib.hid (EF.out x hlt hlt2)
        have hlx := HRX.out x hlt
        have hly := HRY.out x hlt2
        have HN : Hid (X[x] = Y[x] → ∀ i (a : i < X.length) (b : i < Y.length), i < x + 1 → X[i] = Y[i]) := Lib.hid (fun hk i a b hi => by
          rcases Nat.lt_or_ge i x with h1 | h1
          · exact HH.out i a b h1
          · obtain rfl : i = x := by omega
            exact hk)
        have HC := Lib.hid (fun W (hW : Below w2.heap.size w2 W) => spec_l01Same9 _ _ X[x] Y[x] W (hsx.below hW) (hsy.below hW) hlx hly)
        clear hh hb hsx hsy hlx hly
        generalize X[x] = m at *
        generalize Y[x] = k at *
        go_upto_region 6 with fail
        have hI := (Below.refl w2.heap.size w2).drew
        refine wp_region_sched (Below w2.heap.size w2) 10 [0, 1, 2, 3, 4, 5, 6, 7, 9] [0, 1, 2, 3, 4, 5, 6, 7, 8, 9] (by kernel_rfl) (by kernel_rfl) hI ?_
        repeat
          apply wpSched_q rfl rfl
          case h =>
            intro w' hI K hK
            have hcx' := (hI.cell (p := ⟨b, o + x, none⟩) hbl).trans hcx
            have hdx' := (hI.cell (p := ⟨d, q + x, none⟩) hdl).trans hdx
            simp only [quietV, stillV]
            go_simp
            exact hK
          go_simp
        refine wpSched_r rfl rfl ?_ hI
        intro K hK _
        go_simp
        refine (HC.out _ hI).mono ?_
        rintro e w3 ⟨rfl, hbb⟩
        replace hI := hI.trans (hbb.mono hI.size)
        refine hK _ _ hI ?_
        clear hK K hbb
        repeat
          apply wpSched_q rfl rfl
          case h =>
            intro w' hI K hK
            simp only [quietV, stillV]
            go_simp
            exact hK
          go_simp
        refine wpSched_nil ?_
        try simp only [List.drop_succ_cons, List.drop_zero, List.drop_nil]
        have HB3 := Lib.hid (bthen HB.out hI)
        clear hI hcx hdx
        by_cases hmk : m = k
        · have E := Lib.hid (HN.out hmk)
          rw [decide_eq_true hmk]
          clear hmk
          go_wp2
          exact ⟨⟨x + 1, by omega, by go_num, E.out, HB3.out⟩, by simp [intOf]; omega⟩
        · have E := Lib.hid (decide_eq_false (HFx.out hmk))
          rw [decide_eq_false hmk]
          clear hmk
          go_wp2
          go_ret
          exact ⟨by rw [E.out]; rfl, HB3.out⟩
      · obtain rfl : x = X.length := by omega
        have E := Lib.hid (decide_eq_true (ET.out fun i a b => HH.out i a b a))
        clear hh hb
        go_wp2
        go_ret
        exact ⟨by rw [E.out]; rfl, HB.out⟩
  · have E : Hid (decide (X = Y) = false) := Lib.hid (decide_eq_false fun he => hq (by rw [he]))
    have q1 : ((X.length : Int) == (Y.length : Int)) = false := beq_eq_false_iff_ne.2 (by omega)
    have q2 : ((X.length : Int) != (Y.length : Int)) = true := bne_iff_ne.2 (by omega)
    clear h h' hq
    go_enter Tryz.func163, Tryz.ntmps163
    go_wp2
    go_ret
    exact ⟨by rw [E.out]; rfl, Below.refl _ _⟩
end Go.Proofs.YtgkogfjifcfkoaaGreat
