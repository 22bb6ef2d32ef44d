/- Plain law of FnSolutions: the built fixed point is the solution on a transitive acyclic frame. No program in sight. -/
import Derived.Test.YtebpjcbgnagjeaaGreat33f
import Derived.Test.YtebpjcbgnagjeaaGreat33z
import Derived.Test.YtebpjcbgnagjeaaGreatSA
namespace Go.Proofs.YtebpjcbgnagjeaaGreat
open Go.RowKit
set_option linter.unusedVariables false
set_option linter.unusedSimpArgs false
theorem full_bitS {n i : Nat} (h : i < n) : (2 ^ n - 1 : Nat).testBit i = true := by rw [Nat.testBit_two_pow_sub_one, decide_eq_true h]
theorem bx_bitS (ns : List Nat) (m w : Nat) (hw : w < ns.length) (h8 : RelN ns) : (bx ns m).testBit w = true ↔ ∀ v, v < ns.length → (ns.getD w 0).testBit v = true → m.testBit v = true := by
  unfold bx
  rw [msk_testBit, decide_eq_true hw, Bool.true_and, decide_eq_true_eq, andnot_zero]
  exact ⟨fun h v _ hv => h v hv, fun h v hv => h v (bit_lt (getD_lt h8.2 w) hv) hv⟩
theorem dia_bitS (ns us : List Nat) (h : RelN ns) (a : Fm) {x : Nat} (hx : x < ns.length) : (tv ns us (.un .dia a)).testBit x = true ↔ ∃ v, v < ns.length ∧ (ns.getD x 0).testBit v = true ∧ (tv ns us a).testBit v = true := by
  rw [tv, andnot_testBit, full_bitS hx, Bool.true_and, Bool.not_eq_true', ← Bool.not_eq_true, bx_bitS _ _ _ hx h]
  constructor
  · intro hn
    refine Classical.byContradiction fun hc => hn fun v hv hr => ?_
    rw [andnot_testBit, full_bitS hv, Bool.true_and, Bool.not_eq_true']
    cases q : (tv ns us a).testBit v
    · rfl
    · exact absurd ⟨v, hv, hr, q⟩ hc
  · rintro ⟨v, hv, hr, ht⟩ hn
    have := hn v hv hr
    rw [andnot_testBit, ht] at this
    simp at this
theorem mkN_okTS {n m : Nat} (hn : n ≤ 8) (hm : m < 2 ^ n) : mkOk n (m : Int) = true := by
  rw [mkOk_small (by omega)]
  refine inR_true (Int.natCast_nonneg _) ?_
  rw [Int.toNat_natCast, full_cast (by omega)]
  exact Int.ofNat_le.2 (by omega)
theorem mdN_okTS {ns us : List Nat} (h : MdN ns us) : mdOk ns.length (li ns) (li us) = true := by
  have h1 := h.r.1
  have hf : frOk ns.length (li ns) = true := by
    unfold frOk
    rw [inR_true (by omega) (by omega), Bool.true_and, li_length, decide_eq_true rfl, Bool.true_and]
    unfold relOk
    rw [List.all_eq_true]
    intro m hm
    unfold li at hm
    obtain ⟨a, ha, rfl⟩ := List.mem_map.1 hm
    rw [li_length]
    exact mkN_okTS h1 (h.r.2 a ha)
  unfold mdOk
  rw [hf, li_length, h.l, decide_eq_true rfl, Bool.true_and, Bool.true_and, List.all_eq_true]
  intro m hm
  unfold li at hm
  obtain ⟨a, ha, rfl⟩ := List.mem_map.1 hm
  exact mkN_okTS h.r.1 (h.b a ha)
/-- one step of the frame -/
def Rr (ns : List Nat) (x y : Nat) : Prop := y < ns.length ∧ (ns.getD x 0).testBit y = true
/-- the truth of a formula at a world where letter s stands for m -/
def Tr (ns us : List Nat) (s : Nat) (g : Fm) (m x : Nat) : Bool := (tv ns (us.set s m) g).testBit x
theorem tb_and (ns us : List Nat) (a b : Fm) (x : Nat) : (tv ns us (.bin .and a b)).testBit x = ((tv ns us a).testBit x && (tv ns us b).testBit x) := by
  rw [tv, Nat.testBit_and]
theorem tb_or (ns us : List Nat) (a b : Fm) (x : Nat) : (tv ns us (.bin .or a b)).testBit x = ((tv ns us a).testBit x || (tv ns us b).testBit x) := by
  rw [tv, Nat.testBit_or]
theorem tb_imp (ns us : List Nat) (a b : Fm) {x : Nat} (hx : x < ns.length) : (tv ns us (.bin .imp a b)).testBit x = (!(tv ns us a).testBit x || (tv ns us b).testBit x) := by
  rw [tv, Nat.testBit_or]
  unfold andnot
  rw [Nat.testBit_xor, Nat.testBit_and, full_bitS hx]
  cases (tv ns us a).testBit x <;> rfl
theorem tb_box (ns us : List Nat) (h : RelN ns) (a : Fm) {x : Nat} (hx : x < ns.length) : (tv ns us (.un .box a)).testBit x = true ↔ ∀ v, Rr ns x v → (tv ns us a).testBit v = true := by
  rw [tv, bx_bitS ns _ x hx h]
  exact ⟨fun k v hv => k v hv.1 hv.2, fun k v h1 h2 => k v ⟨h1, h2⟩⟩
theorem tb_dia (ns us : List Nat) (h : RelN ns) (a : Fm) {x : Nat} (hx : x < ns.length) : (tv ns us (.un .dia a)).testBit x = true ↔ ∃ v, Rr ns x v ∧ (tv ns us a).testBit v = true := by
  rw [dia_bitS ns us h a hx]
  exact ⟨fun ⟨v, h1, h2, h3⟩ => ⟨v, ⟨h1, h2⟩, h3⟩, fun ⟨v, ⟨h1, h2⟩, h3⟩ => ⟨v, h1, h2, h3⟩⟩
/-- two valuations agree with a formula each at all steps from x: so do the boxes and diamonds at x -/
theorem un_congr {ns us us' : List Nat} (h : RelN ns) (k : UK) {a a' : Fm} {x : Nat} (hx : x < ns.length) (e : ∀ v, Rr ns x v → (tv ns us a).testBit v = (tv ns us' a').testBit v) : (tv ns us (.un k a)).testBit x = (tv ns us' (.un k a')).testBit x := by
  cases k with
  | box =>
    rw [Bool.eq_iff_iff, tb_box ns us h a hx, tb_box ns us' h a' hx]
    exact ⟨fun k v hv => (e v hv) ▸ k v hv, fun k v hv => (e v hv).symm ▸ k v hv⟩
  | dia =>
    rw [Bool.eq_iff_iff, tb_dia ns us h a hx, tb_dia ns us' h a' hx]
    exact ⟨fun ⟨v, hv, k⟩ => ⟨v, hv, (e v hv) ▸ k⟩, fun ⟨v, hv, k⟩ => ⟨v, hv, (e v hv).symm ▸ k⟩⟩
theorem bin_congr {ns us us' : List Nat} (k : BK) {a a' b b' : Fm} {x : Nat} (hx : x < ns.length) (ea : (tv ns us a).testBit x = (tv ns us' a').testBit x) (eb : (tv ns us b).testBit x = (tv ns us' b').testBit x) : (tv ns us (.bin k a b)).testBit x = (tv ns us' (.bin k a' b')).testBit x := by
  cases k with
  | and => rw [tb_and, tb_and, ea, eb]
  | or => rw [tb_or, tb_or, ea, eb]
  | imp => rw [tb_imp _ _ _ _ hx, tb_imp _ _ _ _ hx, ea, eb]
/-- a set of worlds closed upward -/
def Upw (ns : List Nat) (U : Nat → Prop) : Prop := (∀ x, U x → x < ns.length) ∧ ∀ x y, U x → Rr ns x y → U y
theorem set_var {us : List Nat} {s t : Nat} {m : Nat} (h : t ≠ s) : (us.set s m).getD t 0 = us.getD t 0 := by
  rw [List.getD_eq_getElem?_getD, List.getD_eq_getElem?_getD, List.getElem?_set_ne (Ne.symm h)]
theorem loc_up {ns us : List Nat} (h : RelN ns) {U : Nat → Prop} (hU : Upw ns U) {s m m' : Nat} (hs : s < us.length) (e : ∀ x, U x → m.testBit x = m'.testBit x) : ∀ (g : Fm) (x : Nat), U x → Tr ns us s g m x = Tr ns us s g m' x := by
  intro g
  induction g with
  | var t =>
    intro x hx
    unfold Tr
    rw [tv, tv]
    by_cases ht : t = s
    · subst ht
      rw [List.getD_eq_getElem?_getD, List.getD_eq_getElem?_getD, List.getElem?_set_self hs, List.getElem?_set_self hs]
      exact e x hx
    · rw [set_var ht, set_var ht]
  | fls => intro x hx; rfl
  | bin k a b iha ihb => intro x hx; exact bin_congr k (hU.1 x hx) (iha x hx) (ihb x hx)
  | un k a ih => intro x hx; exact un_congr h k (hU.1 x hx) fun v hv => ih v (hU.2 x v hx hv)
/-- what lies strictly above x -/
theorem upw_above {ns : List Nat} (ht : ∀ x y z, Rr ns x y → Rr ns y z → Rr ns x z) (x : Nat) : Upw ns (Rr ns x) := ⟨fun y hy => hy.1, fun y z hy hz => ht x y z hy hz⟩
theorem loc_gd {ns us : List Nat} (h : RelN ns) (ht : ∀ x y z, Rr ns x y → Rr ns y z → Rr ns x z) {s m m' x : Nat} (hs : s < us.length) (hx : x < ns.length) (e : ∀ y, Rr ns x y → m.testBit y = m'.testBit y) : ∀ (f : Fm), gd f s = true → Tr ns us s f m x = Tr ns us s f m' x := by
  intro f
  induction f with
  | var t =>
    intro hg
    have : t ≠ s := by simpa [gd] using hg
    unfold Tr
    rw [tv, tv, set_var this, set_var this]
  | fls => intro _; rfl
  | bin k a b iha ihb =>
    intro hg
    simp only [gd, Bool.and_eq_true] at hg
    exact bin_congr k hx (iha hg.1) (ihb hg.2)
  | un k a ih => intro _; exact un_congr h k hx fun v hv => loc_up h (upw_above ht x) hs e a v hv
theorem sub_tv (ns us : List Nat) (s : Nat) (hs : s < us.length) (d : Fm) : ∀ g : Fm, tv ns us (g.sub s d) = tv ns (us.set s (tv ns us d)) g := by
  intro g
  induction g with
  | var t =>
    rw [Fm.sub]
    by_cases ht : t = s
    · subst ht
      rw [if_pos rfl, tv, List.getD_eq_getElem?_getD, List.getElem?_set_self hs]; rfl
    · rw [if_neg ht, tv, tv, set_var ht]
  | fls => rfl
  | bin k a b iha ihb => cases k <;> simp only [Fm.sub, tv, iha, ihb]
  | un k a ih => cases k <;> simp only [Fm.sub, tv, ih]
theorem rep_tv {ns us : List Nat} {s m x : Nat} {r : Fm → Fm} (h : RelN ns) (hx : x < ns.length) : ∀ (f : Fm), gd f s = true → (∀ g ∈ occs s f, (tv ns us (r g)).testBit x = Tr ns us s g m x) → (∀ g : Fm, g.occ s = false → tv ns us g = tv ns (us.set s m) g) → (tv ns us (repO s r f)).testBit x = Tr ns us s f m x := by
  intro f
  induction f with
  | var t =>
    intro hg _ hn
    have : t ≠ s := by simpa [gd] using hg
    unfold Tr
    rw [repO, hn (.var t) (by simp [Fm.occ, this])]
    all_goals simp
  | fls => intro _ _ _; rfl
  | bin k a b iha ihb =>
    intro hg hr hn
    simp only [gd, Bool.and_eq_true] at hg
    rw [repO]
    exact bin_congr k hx (iha hg.1 (fun g hgm => hr g (by rw [occs]; exact List.mem_append_left _ hgm)) hn) (ihb hg.2 (fun g hgm => hr g (by rw [occs]; exact List.mem_append_right _ hgm)) hn)
  | un k a ih =>
    intro _ hr hn
    rw [repO]
    by_cases ho : a.occ s = true
    · rw [if_pos ho]; exact hr _ (by rw [occs, if_pos ho]; exact List.mem_singleton.2 rfl)
    · rw [if_neg ho]
      unfold Tr
      rw [hn (.un k a) (by simpa [Fm.occ] using ho)]
theorem occ_tv (ns us : List Nat) (s m : Nat) : ∀ g : Fm, g.occ s = false → tv ns us g = tv ns (us.set s m) g := by
  intro g
  induction g with
  | var t => intro h; rw [tv, tv, set_var (by intro e; subst e; simp [Fm.occ] at h)]
  | fls => intro _; rfl
  | bin k a b iha ihb =>
    intro h
    simp only [Fm.occ, Bool.or_eq_false_iff] at h
    cases k <;> simp only [tv, iha h.1, ihb h.2]
  | un k a ih =>
    intro h
    simp only [Fm.occ] at h
    cases k <;> simp only [tv, ih h]
theorem enc_cut : ∀ (a b : Fm) (r r' : List Nd), enc a ++ r = enc b ++ r' → a = b ∧ r = r' := by
  intro a
  induction a with
  | var s => intro b r r' h; cases b with
    | var t => simp [enc] at h; exact ⟨by have h1 := h.1; congr 1; omega, h.2⟩
    | fls => simp [enc] at h
    | bin k _ _ => cases k <;> simp [enc, BK.i] at h
    | un k _ => cases k <;> simp [enc, UK.i] at h
  | fls => intro b r r' h; cases b with
    | var t => simp [enc] at h
    | fls => simp [enc] at h; exact ⟨rfl, h⟩
    | bin k _ _ => cases k <;> simp [enc, BK.i] at h
    | un k _ => cases k <;> simp [enc, UK.i] at h
  | bin k a b iha ihb => intro c r r' h; cases c with
    | var t => cases k <;> simp [enc, BK.i] at h
    | fls => cases k <;> simp [enc, BK.i] at h
    | bin k' a' b' =>
      have hk : k = k' := by cases k <;> cases k' <;> simp [enc, BK.i] at h <;> rfl
      subst hk
      have h2 : enc a ++ (enc b ++ r) = enc a' ++ (enc b' ++ r') := by simpa [enc] using h
      obtain ⟨e1, h3⟩ := iha a' _ _ h2
      obtain ⟨e2, h4⟩ := ihb b' _ _ h3
      exact ⟨by rw [e1, e2], h4⟩
    | un k' _ => cases k <;> cases k' <;> simp [enc, BK.i, UK.i] at h
  | un k a ih => intro c r r' h; cases c with
    | var t => cases k <;> simp [enc, UK.i] at h
    | fls => cases k <;> simp [enc, UK.i] at h
    | bin k' _ _ => cases k <;> cases k' <;> simp [enc, BK.i, UK.i] at h
    | un k' a' =>
      have hk : k = k' := by cases k <;> cases k' <;> simp [enc, UK.i] at h <;> rfl
      subst hk
      have h2 : enc a ++ r = enc a' ++ r' := by simpa [enc] using h
      obtain ⟨e1, h3⟩ := ih a' _ _ h2
      exact ⟨by rw [e1], h3⟩
theorem enc_eq {a b : Fm} (h : enc a = enc b) : a = b := (enc_cut a b [] [] (by rw [h])).1
/-- induction from above -/
def Ind (ns : List Nat) : Prop := ∀ P : Nat → Prop, (∀ x, x < ns.length → (∀ y, Rr ns x y → P y) → P x) → ∀ x, x < ns.length → P x
theorem uniq {ns us : List Nat} (h : RelN ns) (ht : ∀ x y z, Rr ns x y → Rr ns y z → Rr ns x z) (hI : Ind ns) {U : Nat → Prop} (hU : Upw ns U) {s m m' : Nat} (hs : s < us.length) {f : Fm} (hg : gd f s = true) (e : ∀ x, U x → Tr ns us s f m x = m.testBit x) (e' : ∀ x, U x → Tr ns us s f m' x = m'.testBit x) : ∀ x, U x → m.testBit x = m'.testBit x := by
  have := hI (fun x => U x → m.testBit x = m'.testBit x) (fun x hx ih hu => by
    rw [← e x hu, ← e' x hu]
    exact loc_gd h ht hs hx (fun y hy => ih y hy (hU.2 x y hu hy)) f hg)
  exact fun x hu => this x (hU.1 x hu) hu
/-- the truth of what an outer part is replaced by -/
def ctv (g : Fm) : Bool := isbox g
theorem cst1_tv {ns us : List Nat} (g : Fm) {x : Nat} (hx : x < ns.length) : (tv ns us (cst1 g)).testBit x = ctv g := by
  unfold cst1 ctv
  cases isbox g
  · simp [tv]
  · rw [if_pos rfl, truF, tb_imp _ _ _ _ hx]; simp [tv]
theorem set_set' (us : List Nat) (s m m' : Nat) : (us.set s m).set s m' = us.set s m' := by simp
/-- what has its constant's value at a world has it at all above -/
theorem cst_up {ns us : List Nat} (h : RelN ns) (ht : ∀ x y z, Rr ns x y → Rr ns y z → Rr ns x z) {k : UK} {a : Fm} {x y : Nat} (hx : x < ns.length) (hy : Rr ns x y) (e : (tv ns us (.un k a)).testBit x = ctv (.un k a)) : (tv ns us (.un k a)).testBit y = ctv (.un k a) := by
  cases k with
  | box =>
    change _ = true at e
    change _ = true
    rw [tb_box ns us h a hx] at e
    rw [tb_box ns us h a hy.1]
    exact fun v hv => e v (ht x y v hy hv)
  | dia =>
    change _ = false at e
    change _ = false
    rw [← Bool.not_eq_true, tb_dia ns us h a hx] at e
    rw [← Bool.not_eq_true, tb_dia ns us h a hy.1]
    exact fun ⟨v, hv, k⟩ => e ⟨v, ht x y v hy hv, k⟩
/-- where the i-th outer part has its constant's value, nothing changes -/
theorem wto_tv {ns us : List Nat} (h : RelN ns) {s m x : Nat} {f : Fm} (hg : gd f s = true) (hx : x < ns.length) {i : Nat} (hi : i < (outs s f []).length) (e : Tr ns us s ((outs s f []).getD i .fls) m x = ctv ((outs s f []).getD i .fls)) : Tr ns us s (wto s f i) m x = Tr ns us s f m x := by
  unfold wto
  have key := rep_tv (ns := ns) (us := us.set s m) (s := s) (m := m) (x := x) (r := ims (outs s f []) ((outs s f []).set i (cst1 ((outs s f []).getD i .fls)))) h hx f hg (fun g hgm => by
    unfold Tr
    rw [set_set', ims_set (ix_outs hgm)]
    have hgi : (outs s f []).getD (ix (outs s f []) g) .fls = g := enc_eq (ix_at (ix_outs hgm))
    by_cases hii : ix (outs s f []) g = i
    · rw [if_pos hii, cst1_tv _ hx]
      rw [hii] at hgi
      rw [← e, hgi]; rfl
    · rw [if_neg hii, hgi]) (fun g hgo => by rw [set_set'])
  unfold Tr at key ⊢
  rw [set_set'] at key
  exact key
/-- the built fixed point is one -/
theorem built_fix {ns us : List Nat} (h : RelN ns) (ht : ∀ x y z, Rr ns x y → Rr ns y z → Rr ns x z) (hI : Ind ns) {s : Nat} (hs : s < us.length) : ∀ (n : Nat) (f d : Fm), gd f s = true → (outs s f []).length ≤ n → bldS s n f = some d → ∀ x, x < ns.length → Tr ns us s f (tv ns us d) x = (tv ns us d).testBit x := by
  have base : ∀ f : Fm, gd f s = true → (outs s f []).length = 0 → ∀ x, Tr ns us s f (tv ns us f) x = (tv ns us f).testBit x := by
    intro f hg h0 x
    have ho : f.occ s = false := by
      cases e : f.occ s with
      | false => rfl
      | true => exact absurd (outs_nil.1 (List.length_eq_zero_iff.1 h0)) ((gd_occ hg).1 e)
    unfold Tr
    rw [← occ_tv ns us s _ f ho]
  intro n
  induction n with
  | zero =>
    intro f d hg hl hd x hx
    rw [bldS] at hd
    obtain rfl := Option.some.inj hd
    exact base f hg (by omega) x
  | succ n IH =>
    intro f d hg hl hd
    rw [bldS] at hd
    split at hd
    · rename_i h0
      obtain rfl := Option.some.inj hd
      exact fun x hx => base f hg h0 x
    · split at hd
      · cases hd
      · rename_i I hto
        split at hd
        · cases hd
        · obtain rfl := Option.some.inj hd
          obtain ⟨hlen, hform⟩ := imsTo_form hto
          generalize hO : outs s f [] = O at *
          -- the image of an outer part: its own fixed point put in
          have img : ∀ g ∈ occs s f, ∃ D : Nat, (∀ y, y < ns.length → Tr ns us s (wto s f (ix O g)) D y = D.testBit y) ∧ tv ns us (ims O I g) = tv ns (us.set s D) g := by
            intro g hgm
            have hi : ix O g < O.length := hO ▸ ix_outs hgm
            obtain ⟨di, hb, hIi⟩ := hform _ hi
            have hgi : O.getD (ix O g) .fls = g := enc_eq (ix_at hi)
            refine ⟨tv ns us di, IH _ di (wto_gd hg _) (by have := wto_outs (s := s) (f := f) (i := ix O g) (by rw [hO]; exact hi); rw [hO] at this; omega) hb, ?_⟩
            show tv ns us (I.getD (ix O g) .fls) = _
            rw [hIi, hgi, sub_tv ns us s hs]
          generalize hM : tv ns us (repO s (ims O I) f) = M at *
          have step : ∀ x, x < ns.length → (∀ g ∈ occs s f, (tv ns us (ims O I g)).testBit x = Tr ns us s g M x) → Tr ns us s f M x = M.testBit x := by
            intro x hx hc
            have := rep_tv (m := M) h hx f hg hc (occ_tv ns us s M)
            rw [hM] at this
            exact this.symm
          have all : ∀ x, x < ns.length → ∀ g ∈ occs s f, (tv ns us (ims O I g)).testBit x = Tr ns us s g M x := by
            refine hI _ fun x hx ih g hgm => ?_
            have hA : ∀ y, Rr ns x y → Tr ns us s f M y = M.testBit y := fun y hy => step y hy.1 (ih y hy)
            obtain ⟨D, hD, hE⟩ := img g hgm
            have hi : ix O g < O.length := hO ▸ ix_outs hgm
            have hgi : O.getD (ix O g) .fls = g := enc_eq (ix_at hi)
            have hw : ∀ m y, y < ns.length → Tr ns us s g m y = ctv g → Tr ns us s (wto s f (ix O g)) m y = Tr ns us s f m y := fun m y hy e =>
              wto_tv h hg hy (by rw [hO]; exact hi) (by rw [hO, hgi]; exact e)
            rw [hE]
            change Tr ns us s g D x = Tr ns us s g M x
            obtain ⟨k, a, rfl, -⟩ := occs_mem hgm
            have same : (∀ y, Rr ns x y → D.testBit y = M.testBit y) → Tr ns us s (.un k a) D x = Tr ns us s (.un k a) M x := fun e => un_congr h k hx fun v hv => loc_up h (upw_above ht x) hs e a v hv
            by_cases h1 : Tr ns us s (.un k a) D x = ctv (.un k a)
            · exact same (uniq h ht hI (upw_above ht x) hs hg (fun y hy => by rw [← hw D y hy.1 (cst_up h ht hx hy h1)]; exact hD y hy.1) hA)
            · by_cases h2 : Tr ns us s (.un k a) M x = ctv (.un k a)
              · exact same (uniq h ht hI (upw_above ht x) hs (wto_gd hg _) (fun y hy => hD y hy.1) (fun y hy => by rw [hw M y hy.1 (cst_up h ht hx hy h2)]; exact hA y hy))
              · cases e1 : Tr ns us s (.un k a) D x <;> cases e2 : Tr ns us s (.un k a) M x <;> cases e3 : ctv (.un k a) <;> simp_all
          exact fun x hx => step x hx (all x hx)
theorem rr_tra {ns : List Nat} (h : trv ns = true) (hn : ∀ x ∈ ns, x < 2 ^ ns.length) : ∀ x y z, Rr ns x y → Rr ns y z → Rr ns x z := by
  intro x y z h1 h2
  have hx : x < ns.length := by
    rcases Nat.lt_or_ge x ns.length with hx | hx
    · exact hx
    · have := h1.2
      rw [List.getD_eq_getElem?_getD, List.getElem?_eq_none hx] at this
      simp at this
  have e := congrArg (fun n => n.testBit z) ((trv_iff ns).1 h x hx y h1.1 h1.2)
  simp only [Nat.testBit_or, h2.2, Bool.or_true] at e
  exact ⟨h2.1, e.symm⟩
theorem rr_irr {ns : List Nat} (h : trv ns = true) (ha : acy ns = true) : ∀ x, ¬ Rr ns x x := by
  intro x hx
  rw [trv_clo] at h
  have hc := of_decide_eq_true h
  unfold acy at ha
  rw [hc] at ha
  have := List.all_eq_true.1 ha x (List.mem_range.2 hx.1)
  rw [hx.2] at this
  simp at this
/-- the worlds seen from x -/
def sc (ns : List Nat) (x : Nat) : List Nat := (List.range ns.length).filter fun y => (ns.getD x 0).testBit y
theorem sc_mem {ns : List Nat} {x y : Nat} : y ∈ sc ns x ↔ Rr ns x y := by
  unfold sc Rr
  rw [List.mem_filter, List.mem_range]
theorem sc_nodup (ns : List Nat) (x : Nat) : (sc ns x).Nodup := List.nodup_range.filter _
theorem sc_lt {ns : List Nat} (ht : ∀ x y z, Rr ns x y → Rr ns y z → Rr ns x z) (hr : ∀ x, ¬ Rr ns x x) {x y : Nat} (hy : Rr ns x y) : (sc ns y).length < (sc ns x).length := by
  have := nodup_le (y :: sc ns y) (sc ns x) (List.nodup_cons.2 ⟨fun k => hr y (sc_mem.1 k), sc_nodup ns y⟩) (fun z hz => by
    rcases List.mem_cons.1 hz with rfl | hz
    · exact sc_mem.2 hy
    · exact sc_mem.2 (ht x y z hy (sc_mem.1 hz)))
  simp only [List.length_cons] at this
  omega
theorem sc_len {ns : List Nat} (hr : ∀ x, ¬ Rr ns x x) {x : Nat} (hx : x < ns.length) : (sc ns x).length < ns.length := by
  have := nodup_le (x :: sc ns x) (List.range ns.length) (List.nodup_cons.2 ⟨fun k => hr x (sc_mem.1 k), sc_nodup ns x⟩) (fun z hz => by
    rcases List.mem_cons.1 hz with rfl | hz
    · exact List.mem_range.2 hx
    · exact List.mem_range.2 (sc_mem.1 hz).1)
  simp only [List.length_cons, List.length_range] at this
  omega
theorem ind_of {ns : List Nat} (ht : ∀ x y z, Rr ns x y → Rr ns y z → Rr ns x z) (hr : ∀ x, ¬ Rr ns x x) : Ind ns := by
  intro P h
  have key : ∀ k x, x < ns.length → (sc ns x).length < k → P x := by
    intro k
    induction k with
    | zero => intro x hx hl; omega
    | succ k ih => intro x hx hl; exact h x hx fun y hy => ih y hy.1 (by have := sc_lt ht hr hy; omega)
  exact fun x hx => key _ x hx (Nat.lt_succ_self _)
theorem slvn_stage {ns us : List Nat} (h : RelN ns) (ht : ∀ x y z, Rr ns x y → Rr ns y z → Rr ns x z) (hr : ∀ x, ¬ Rr ns x x) {s : Nat} (hs : s < us.length) {f : Fm} (hg : gd f s = true) : ∀ k x, x < ns.length → (sc ns x).length < k → (slvn ns us f s (k + 1)).testBit x = (slvn ns us f s k).testBit x := by
  intro k
  induction k with
  | zero => intro x hx hl; omega
  | succ k ih =>
    intro x hx hl
    exact loc_gd (m := slvn ns us f s (k + 1)) (m' := slvn ns us f s k) h ht hs hx (fun y hy => ih y hy.1 (by have := sc_lt ht hr hy; omega)) f hg
theorem bits_eq {m m' n : Nat} (hm : m < 2 ^ n) (hm' : m' < 2 ^ n) (e : ∀ x, x < n → m.testBit x = m'.testBit x) : m = m' := by
  apply Nat.eq_of_testBit_eq
  intro i
  rcases Nat.lt_or_ge i n with hi | hi
  · exact e i hi
  · rw [Nat.testBit_lt_two_pow (Nat.lt_of_lt_of_le hm (Nat.pow_le_pow_right (by decide) hi)), Nat.testBit_lt_two_pow (Nat.lt_of_lt_of_le hm' (Nat.pow_le_pow_right (by decide) hi))]
/-- SolveOnFrame's answer solves, and is the only one -/
theorem slvn_sol {ns us : List Nat} (h : RelN ns) (hus : ∀ x ∈ us, x < 2 ^ ns.length) (h1 : trv ns = true) (h2 : acy ns = true) {s : Nat} (hs : s < us.length) {f : Fm} (hg : gd f s = true) : slv ns us f s (slvn ns us f s ns.length) = slvn ns us f s ns.length := by
  have ht := rr_tra h1 h.2
  have hr := rr_irr h1 h2
  exact bits_eq (slv_lt ns us f s _ hus (slvn_lt ns us f s hus _)) (slvn_lt ns us f s hus _) fun x hx => slvn_stage h ht hr hs hg ns.length x hx (sc_len hr hx)
theorem slv_only {ns us : List Nat} (h : RelN ns) (h1 : trv ns = true) (h2 : acy ns = true) {s : Nat} (hs : s < us.length) {f : Fm} (hg : gd f s = true) {m m' : Nat} (hm : m < 2 ^ ns.length) (hm' : m' < 2 ^ ns.length) (e : slv ns us f s m = m) (e' : slv ns us f s m' = m') : m = m' := by
  have ht := rr_tra h1 h.2
  have hr := rr_irr h1 h2
  refine bits_eq hm hm' (uniq (U := fun x => x < ns.length) h ht (ind_of ht hr) ⟨fun x hx => hx, fun x y _ hy => hy.1⟩ hs hg (fun x _ => ?_) (fun x _ => ?_))
  · exact congrArg (fun n => n.testBit x) e
  · exact congrArg (fun n => n.testBit x) e'
/-- the built fixed point is true where the solution is -/
theorem built_sol {ns us : List Nat} (h : RelN ns) (hus : ∀ x ∈ us, x < 2 ^ ns.length) (h1 : trv ns = true) (h2 : acy ns = true) {s : Nat} (hs : s < us.length) {f d : Fm} (hg : gd f s = true) (hd : bldS s (outs s f []).length f = some d) : tv ns us d = slvn ns us f s ns.length := by
  have ht := rr_tra h1 h.2
  have hr := rr_irr h1 h2
  have hI := ind_of ht hr
  have hb := built_fix h ht hI hs _ f d hg (Nat.le_refl _) hd
  have hm := tv_lt ns us hus d
  exact slv_only h h1 h2 hs hg hm (slvn_lt ns us f s hus _) (bits_eq (slv_lt ns us f s _ hus hm) hm fun x hx => hb x hx) (slvn_sol h hus h1 h2 hs hg)
/-- one mask alone solves: the count is 1 -/
theorem csTo_one {ns us : List Nat} {f : Fm} {s m : Nat} (hm : slv ns us f s m = m) (ho : ∀ k, k < 2 ^ ns.length → slv ns us f s k = k → k = m) : ∀ k, k ≤ 2 ^ ns.length → csTo ns us f s k = if m < k then 1 else 0 := by
  intro k
  induction k with
  | zero => intro _; rfl
  | succ k ih =>
    intro hk
    rw [csTo_succ, ih (by omega)]
    by_cases e : slv ns us f s k = k
    · have := ho k (by omega) e
      subst this
      rw [if_pos e, if_neg (Nat.lt_irrefl _), if_pos (Nat.lt_succ_self _)]
    · have hne : k ≠ m := fun h => e (h ▸ hm)
      rw [if_neg e]
      by_cases hl : m < k
      · rw [if_pos hl, if_pos (by omega)]
      · rw [if_neg hl, if_neg (by omega)]
theorem count_one {ns us : List Nat} (h : RelN ns) (hus : ∀ x ∈ us, x < 2 ^ ns.length) (h1 : trv ns = true) (h2 : acy ns = true) {s : Nat} (hs : s < us.length) {f : Fm} (hg : gd f s = true) : csTo ns us f s (2 ^ ns.length) = 1 := by
  have hsol := slvn_sol h hus h1 h2 hs hg
  have hl := slvn_lt ns us f s hus ns.length
  rw [csTo_one hsol (fun k hk e => slv_only h h1 h2 hs hg hk hl e hsol) _ (Nat.le_refl _), if_pos hl]
end Go.Proofs.YtebpjcbgnagjeaaGreat
