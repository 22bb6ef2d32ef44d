/- Contracts of the reference: what is useless in a list; the list without one; append of a list as a step of a drawn region. -/
import Derived.Test.YtaigiopoogbbbaaGreatY41
import Derived.Test.YtaigiopoogbbbaaGreatY25
namespace Go.Proofs.YtaigiopoogbbbaaGreat
open Go.RowKit
set_option linter.unusedVariables false
set_option linter.unusedSimpArgs false
section
variable {P : Program} {α : Type} {K : Cod α}
/-- append of a list, as a step of a region that draws its order -/
theorem step_slS (w : World) {ops : Array Oper} {o : Oper} {a : Act} {KK : Act → World → Prop} {Q : Exit → Act → World → Prop} {E : Prop} {t e : TypeId} {z : Value} {bytes : Nat}
    (T : Ty P t e z K.size bytes) (hgd : o.guard = none) (s x : Operand)
    (ho : o.op = .call { callee := .builtin .append, args := #[s, x], argTypes := #[t, t] })
    {B : Nat} {v u : Value} {xs news : List α} (hs : a.eval s = v) (hown : Ow K e B w v xs) (hx : a.eval x = u) (hr : Sl K w u news)
    (hbytes : (xs.length + news.length) * bytes ≤ 140737488355328) (hbase : B ≤ w.heap.size)
    (h : ∀ v' w', Ow K e B w' v' (xs ++ news) → w.grownBy w' v.ownBlock → Below B w w' → (v'.ownBlock = v.ownBlock ∨ v'.ownBlock = some w.heap.size) → KK (a.put o.dst v') w') :
    if Region.wanted o (yielded ops a.tmps) = true then Oper.wp P o a w KK Q else E := by
  have hw : Region.wanted o (yielded ops a.tmps) = true := by simp [Region.wanted, hgd]
  rw [if_pos hw]
  obtain ⟨A, c, rfl, _, _, hr⟩ := hr
  exact wp_anyS w T s x ho hs hown hx rfl hr hbytes hbase h
end
def kdI : Fm → Int | .var _ => 0 | .fls => 1 | .bin k _ _ => k.i | .un k _ => k.i
theorem kdI_enc (f : Fm) : ((enc f)[0]'(enc_pos f)).1 = kdI f := by cases f <;> rfl
theorem kdI_cell {w : World} {A : Option Addr} {n c : Nat} {f : Fm} (h : Sl cN w (.slice A n c) (enc f)) : ∃ b o, A = some ⟨b, o, none⟩ ∧ b < w.heap.size ∧ w.cell? ⟨b, o, none⟩ = some (.int .i64 (kdI f)) := by
  obtain ⟨b, o, hA, hb, hc⟩ := h.cell (k := 0) (enc_pos f)
  refine ⟨b, o, hA, hb, ?_⟩
  have := hc 0 (.int .i64 ((enc f)[0]'(enc_pos f)).1) rfl
  rw [kdI_enc] at this
  simpa using this
theorem FsR.one {w : World} {A : Option Addr} {n c : Nat} {f : Fm} (h : Sl cN w (.slice A n c) (enc f)) (e : TypeId) : FsR (w.alloc (.cells #[.slice A n c] e)) (.slice (some ⟨w.heap.size, 0, none⟩) 1 1) [(⟨A, n, c⟩, f)] :=
  ⟨(Ow.lit (K := cH) (e := e) (B := w.heap.size) [⟨A, n, c⟩] rfl rfl (Nat.le_refl _)).sl, fun p hp => by rw [List.mem_singleton.1 hp]; exact h.below (below_alloc' w _)⟩
theorem FsR.two {w : World} {A A' : Option Addr} {n c n' c' : Nat} {f g : Fm} (h : Sl cN w (.slice A n c) (enc f)) (h' : Sl cN w (.slice A' n' c') (enc g)) (e : TypeId) :
    FsR (w.alloc (.cells #[.slice A n c, .slice A' n' c'] e)) (.slice (some ⟨w.heap.size, 0, none⟩) 2 2) [(⟨A, n, c⟩, f), (⟨A', n', c'⟩, g)] :=
  ⟨(Ow.lit (K := cH) (e := e) (B := w.heap.size) [⟨A, n, c⟩, ⟨A', n', c'⟩] rfl rfl (Nat.le_refl _)).sl, fun p hp => by
    simp only [List.mem_cons, List.not_mem_nil, or_false] at hp
    rcases hp with rfl | rfl
    · exact h.below (below_alloc' w _)
    · exact h'.below (below_alloc' w _)⟩
/-- the list without the element at a place -/
def rst (ps : List (Hd × Fm)) (j : Nat) : List (Hd × Fm) := ps.take j ++ ps.drop (j + 1)
theorem rst_len {ps : List (Hd × Fm)} {j : Nat} (h : j < ps.length) : (rst ps j).length + 1 = ps.length := by
  unfold rst
  rw [List.length_append, List.length_take, List.length_drop]
  omega
theorem split_at (ps : List (Hd × Fm)) {j : Nat} (h : j < ps.length) : ps = ps.take j ++ ps[j] :: ps.drop (j + 1) := by
  rw [← List.drop_eq_getElem_cons h, List.take_append_drop]
theorem rst_mem (ps : List (Hd × Fm)) {j : Nat} (h : j < ps.length) : Mem1 (fs2 ps) (ps[j]).2 (fs2 (rst ps j)) := fun x => by
  have e := split_at ps h
  have e2 : fs2 ps = fs2 (ps.take j) ++ (ps[j]).2 :: fs2 (ps.drop (j + 1)) := (congrArg fs2 e).trans (by unfold fs2; rw [List.map_append, List.map_cons])
  rw [e2]
  have e3 : fs2 (rst ps j) = fs2 (ps.take j) ++ fs2 (ps.drop (j + 1)) := by unfold fs2 rst; rw [List.map_append]
  rw [e3]
  simp only [List.mem_append, List.mem_cons]
  constructor
  · rintro (h | h | h)
    · exact .inr (.inl h)
    · exact .inl h
    · exact .inr (.inr h)
  · rintro (h | h | h)
    · exact .inr (.inl h)
    · exact .inl h
    · exact .inr (.inr h)
theorem rst_sw (ps : List (Hd × Fm)) {j : Nat} (h : j < ps.length) : swL (fs2 ps) = swL (fs2 (rst ps j)) + sw (ps[j]).2 := by
  have e := split_at ps h
  have e2 : fs2 ps = fs2 (ps.take j) ++ (ps[j]).2 :: fs2 (ps.drop (j + 1)) := (congrArg fs2 e).trans (by unfold fs2; rw [List.map_append, List.map_cons])
  have e3 : fs2 (rst ps j) = fs2 (ps.take j) ++ fs2 (ps.drop (j + 1)) := by unfold fs2 rst; rw [List.map_append]
  rw [e2, e3, swL_app, swL_app]
  simp only [swL]
  omega
theorem rst_gd {ps : List (Hd × Fm)} {j : Nat} (h : j < ps.length) (hg : gdI (fs2 ps)) : gdI (fs2 (rst ps j)) := fun f hf => hg f ((rst_mem ps h f).2 (.inr hf))
theorem rst_all {P : Hd × Fm → Prop} {ps : List (Hd × Fm)} {j : Nat} (h : ∀ p ∈ ps, P p) : ∀ p ∈ rst ps j, P p := fun p hp => by
  unfold rst at hp
  rcases List.mem_append.1 hp with hp | hp
  · exact h p (List.mem_of_mem_take hp)
  · exact h p (List.mem_of_mem_drop hp)
def isfls : Fm → Bool | .fls => true | _ => false
/-- is a formula of no use beside some? -/
def usl (ps : List (Hd × Fm)) : Fm → Bool
  | .bin .or a b => hasF ps a || hasF ps b
  | .bin .imp a b => isfls a || hasF ps b
  | _ => false
theorem usl_val {G : List Fm} {ps : List (Hd × Fm)} {f c : Fm} (hm : Mem1 G f (fs2 ps)) (h : usl ps f = true) : Val G c ↔ Val (fs2 ps) c := by
  cases f with
  | var s => cases h
  | fls => cases h
  | un k a => cases h
  | bin k a b =>
    cases k with
    | and => cases h
    | or =>
      have h : (hasF ps a || hasF ps b) = true := h
      rw [Bool.or_eq_true, hasF_iff, hasF_iff] at h
      exact Val.usor hm h
    | imp =>
      have h : (isfls a || hasF ps b) = true := h
      rw [Bool.or_eq_true, hasF_iff] at h
      rcases h with h | h
      · cases a with
        | fls => exact Val.flsimp hm
        | var s => cases h
        | bin k a b => cases h
        | un k a => cases h
      · exact Val.usimp hm h
theorem kdI_fls (a : Fm) : (kdI a == 1) = isfls a := by
  cases a with
  | var s => rfl
  | fls => rfl
  | bin k a b => cases k <;> rfl
  | un k a => cases k <;> rfl
set_option maxRecDepth 100000 in
theorem spec_l23Useless (ps : List (Hd × Fm)) (f : Fm) (v u : Value) (w : World) (h : FsR w v ps) (h' : Sl cN w u (enc f)) (hl : ps.length ≤ 200000) (hg : gdI (fs2 ps)) (hf : (enc f).length ≤ 40) :
    Calls Tryz.prog 41 #[v, u] w fun e w' => e = .returned (.bool (usl ps f)) ∧ Below w.heap.size w w' := by
  obtain ⟨A, c, rfl⟩ := h.opn
  obtain ⟨B, d, rfl⟩ := h'.opn
  have HHas := Lib.hid (fun g u W a b hg2 => spec_l23Has ps g (.slice A ps.length c) u W a b hl hg hg2)
  have H := Lib.hid h
  have HF := Lib.hid h'
  obtain ⟨b0, o0, rfl, hb0, hc0⟩ := kdI_cell h'
  have hpos := enc_pos f
  clear h h' hg
  cases f with
  | var s =>
    have e : (enc (.var s)).length = 1 := rfl
    rw [e] at HF hf hpos ⊢
    have hk : kdI (.var s) = 0 := rfl
    rw [hk] at hc0
    clear e hk
    go_enter Tryz.func41, Tryz.ntmps41
    go_wp2
    go_ret
    exact ⟨rfl, Below.refl _ _⟩
  | fls =>
    have e : (enc (.fls)).length = 1 := rfl
    rw [e] at HF hf hpos ⊢
    have hk : kdI (.fls) = 1 := rfl
    rw [hk] at hc0
    clear e hk
    go_enter Tryz.func41, Tryz.ntmps41
    go_wp2
    go_ret
    exact ⟨rfl, Below.refl _ _⟩
  | un k a =>
    have hk : kdI (.un k a) = 5 ∨ kdI (.un k a) = 6 := by cases k <;> simp [kdI, UK.i]
    obtain ⟨n, hn⟩ : ∃ n, (enc (.un k a)).length = n := ⟨_, rfl⟩
    rw [hn] at hpos ⊢
    generalize kdI (.un k a) = kk at *
    clear hn HF hf
    rcases hk with rfl | rfl
    all_goals
      go_enter Tryz.func41, Tryz.ntmps41
      go_wp2
      go_ret
      exact ⟨rfl, Below.refl _ _⟩
  | bin k x y =>
    have hlen : (enc (.bin k x y)).length = 1 + (enc x).length + (enc y).length := by simp [enc]; omega
    have H1 := Lib.hid (fun W v (hv : Sl cN W v (enc (.bin k x y))) => spec_l02Left v (k.i, 0) x (enc y) W hv (by show (enc (.bin k x y)).length ≤ _; omega))
    have H2 := Lib.hid (fun W v (hv : Sl cN W v (enc (.bin k x y))) => spec_l02Right v (k.i, 0) x y W hv (by show (enc (.bin k x y)).length ≤ _; omega))
    have HX := Lib.hid (fun u W a b => HHas.out x u W a b (by omega))
    have HY := Lib.hid (fun u W a b => HHas.out y u W a b (by omega))
    have hxp := enc_pos x
    obtain ⟨n, hn⟩ : ∃ n, (enc (.bin k x y)).length = n := ⟨_, rfl⟩
    rw [hn] at hpos HF ⊢
    clear hn hlen HHas
    cases k with
    | and =>
      have hk : kdI (.bin .and x y) = 2 := rfl
      rw [hk] at hc0
      clear hk
      go_enter Tryz.func41, Tryz.ntmps41
      go_wp2
      go_ret
      exact ⟨rfl, Below.refl _ _⟩
    | or =>
      have hk : kdI (.bin .or x y) = 3 := rfl
      rw [hk] at hc0
      have HU : Hid (usl ps (.bin .or x y) = (hasF ps x || hasF ps y)) := Lib.hid rfl
      rw [HU.out]
      clear hk
      generalize hasF ps x = r1 at *
      generalize hasF ps y = r2 at *
      go_enter Tryz.func41, Tryz.ntmps41
      go_wp2_with fail
      refine (H1.out _ _ HF.out).mono ?_
      rintro e w1 ⟨u1, rfl, hs, rfl⟩
      have S1 := Lib.hid hs
      clear hs
      go_wp2_with fail
      refine (HX.out _ _ H.out S1.out).mono ?_
      rintro e w1 ⟨rfl, hb⟩
      have HB := Lib.hid hb
      have HF1 := Lib.hid (HF.out.below hb)
      have H0 := Lib.hid (H.out.below hb)
      clear hb hc0 hb0
      cases r1
      · go_wp2_with fail
        refine (H2.out _ _ HF1.out).mono ?_
        rintro e w2 ⟨u2, rfl, hs, rfl⟩
        have S2 := Lib.hid hs
        clear hs
        go_wp2_with fail
        refine (HY.out _ _ H0.out S2.out).mono ?_
        rintro e w3 ⟨rfl, hb⟩
        have HB3 := Lib.hid (bthen HB.out hb)
        clear hb
        go_wp2
        go_ret
        exact ⟨by cases r2 <;> rfl, HB3.out⟩
      · go_wp2
        go_ret
        exact ⟨rfl, HB.out⟩
    | imp =>
      have hk : kdI (.bin .imp x y) = 4 := rfl
      rw [hk] at hc0
      have HU : Hid (usl ps (.bin .imp x y) = (isfls x || hasF ps y)) := Lib.hid rfl
      rw [HU.out]
      clear hk
      generalize hasF ps y = r2 at *
      have hkx : (kdI x == 1) = isfls x := kdI_fls x
      generalize isfls x = r1 at *
      go_enter Tryz.func41, Tryz.ntmps41
      go_wp2_with fail
      refine (H1.out _ _ HF.out).mono ?_
      rintro e w1 ⟨u1, rfl, hs, rfl⟩
      obtain ⟨A1, c1, rfl⟩ := hs.opn
      obtain ⟨b1, o1, rfl, hb1, hc1⟩ := kdI_cell hs
      clear hs
      generalize (enc x).length = nx at *
      generalize kdI x = kx at *
      cases r1
      · go_wp2_with fail
        refine (H2.out _ _ HF.out).mono ?_
        rintro e w2 ⟨u2, rfl, hs, rfl⟩
        have S2 := Lib.hid hs
        clear hs hc1
        go_wp2_with fail
        refine (HY.out _ _ H.out S2.out).mono ?_
        rintro e w3 ⟨rfl, hb⟩
        have HB3 := Lib.hid hb
        clear hb
        go_wp2
        go_ret
        exact ⟨by cases r2 <;> rfl, HB3.out⟩
      · go_wp2
        go_ret
        exact ⟨rfl, Below.refl _ _⟩
end Go.Proofs.YtaigiopoogbbbaaGreat
