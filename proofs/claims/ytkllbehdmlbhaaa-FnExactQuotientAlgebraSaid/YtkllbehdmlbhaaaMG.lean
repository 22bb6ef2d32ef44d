/- Joined of several texts: M24, M24p. -/
import Derived.Test.YtkllbehdmlbhaaaM07V
namespace Go.Proofs.Ytkllbehdmlbhaaa
open Go.RowKit
set_option linter.unusedVariables false
set_option linter.unusedSimpArgs false
/- Plain law of merging: among the correct partitions that keep the values the one with the fewest classes is that of bisimilarity. No program in sight. -/
/-- all partitions of so many elements, ascending -/
def prt : Nat → List (List Nat)
  | 0 => [[]]
  | k + 1 => (prt k).flatMap fun l => (List.range (mx l l.length + 1)).map fun v => l ++ [v]
def rgf (l : List Nat) : Prop := ∀ i, i < l.length → l.getD i 0 ≤ mx l i
theorem getD_app1 (l : List Nat) (v i : Nat) (h : i < l.length) : (l ++ [v]).getD i 0 = l.getD i 0 := by
  rw [List.getD_eq_getElem?_getD, List.getD_eq_getElem?_getD, List.getElem?_append_left h]
theorem getD_app2 (l : List Nat) (v : Nat) : (l ++ [v]).getD l.length 0 = v := by
  rw [List.getD_eq_getElem?_getD, List.getElem?_append_right (Nat.le_refl _), Nat.sub_self]; rfl
theorem mx_app (l : List Nat) (v k : Nat) (h : k ≤ l.length) : mx (l ++ [v]) k = mx l k := by
  induction k with
  | zero => rfl
  | succ k ih => rw [mx, mx, ih (by omega), getD_app1 l v k (by omega)]
theorem rgf_app {l : List Nat} {v : Nat} : rgf (l ++ [v]) ↔ rgf l ∧ v ≤ mx l l.length := by
  constructor
  · intro h
    refine ⟨fun i hi => ?_, ?_⟩
    · have := h i (by simp; omega)
      rwa [getD_app1 l v i hi, mx_app l v i (by omega)] at this
    · have := h l.length (by simp)
      rwa [getD_app2, mx_app l v _ (Nat.le_refl _)] at this
  · rintro ⟨h, hv⟩ i hi
    rw [List.length_append, List.length_singleton] at hi
    rcases Nat.lt_or_ge i l.length with h1 | h1
    · rw [getD_app1 l v i h1, mx_app l v i (by omega)]; exact h i h1
    · obtain rfl : i = l.length := by omega
      rw [getD_app2, mx_app l v _ (Nat.le_refl _)]; exact hv
theorem prt_mem (k : Nat) : ∀ l : List Nat, l ∈ prt k ↔ l.length = k ∧ rgf l := by
  induction k with
  | zero =>
    intro l
    rw [prt, List.mem_singleton]
    constructor
    · rintro rfl; exact ⟨rfl, fun i hi => by simp at hi⟩
    · rintro ⟨h, -⟩; exact List.length_eq_zero_iff.1 h
  | succ k ih =>
    intro l
    rw [prt, List.mem_flatMap]
    constructor
    · rintro ⟨l', h1, h2⟩
      obtain ⟨v, hv, rfl⟩ := List.mem_map.1 h2
      rw [List.mem_range] at hv
      obtain ⟨p, q⟩ := (ih l').1 h1
      exact ⟨by simp [p], rgf_app.2 ⟨q, by omega⟩⟩
    · rintro ⟨h1, h2⟩
      rcases List.eq_nil_or_concat l with rfl | ⟨l', v, rfl⟩
      · simp at h1
      · rw [List.concat_eq_append] at h1 h2 ⊢
        obtain ⟨p, q⟩ := rgf_app.1 h2
        refine ⟨l', (ih l').2 ⟨by simpa using h1, p⟩, List.mem_map.2 ⟨v, List.mem_range.2 (by omega), rfl⟩⟩
theorem mx_range (k j : Nat) (h : j ≤ k) : mx (List.range k) j = j := by
  induction j with
  | zero => rfl
  | succ j ih => rw [mx, ih (by omega), range_getD (by omega)]; omega
theorem prt_last (k : Nat) : ∃ L, prt k = L ++ [List.range k] := by
  induction k with
  | zero => exact ⟨[], rfl⟩
  | succ k ih =>
    obtain ⟨L, h⟩ := ih
    rw [prt, h, List.flatMap_append, List.flatMap_singleton, List.length_range, mx_range k k (Nat.le_refl _), List.range_succ, List.map_append]
    refine ⟨L.flatMap (fun l => (List.range (mx l l.length + 1)).map fun v => l ++ [v]) ++ (List.range k).map fun v => List.range k ++ [v], ?_⟩
    rw [List.append_assoc]
    rfl
/-- a correct partition -/
def corP (ns l : List Nat) : Prop := ∀ x, x < l.length → ∀ y, y < l.length → l.getD x 0 = l.getD y 0 → img (pw l) (ns.getD x 0) = img (pw l) (ns.getD y 0)
instance (ns l : List Nat) : Decidable (corP ns l) := by unfold corP; exact inferInstance
def cor (ns l : List Nat) : Bool := decide (corP ns l)
/-- elements of one class are forced the same variables -/
def alkP (us l : List Nat) : Prop := ∀ x, x < l.length → ∀ y, y < x → ∀ v, v < us.length → l.getD x 0 = l.getD y 0 → (us.getD v 0).testBit x = (us.getD v 0).testBit y
instance (us l : List Nat) : Decidable (alkP us l) := by unfold alkP; exact inferInstance
def alk (us l : List Nat) : Bool := decide (alkP us l)
def cps (ns : List Nat) : List (List Nat) := (prt ns.length).filter (cor ns)
def bst1 (us b l : List Nat) : List Nat := if (alk us l && decide (mx l l.length < mx b b.length)) = true then l else b
def bst (us : List Nat) (L : List (List Nat)) (b : List Nat) : List Nat := L.foldl (bst1 us) b
theorem bst_spec (us : List Nat) (L : List (List Nat)) : ∀ b : List Nat, (bst us L b = b ∨ bst us L b ∈ L ∧ alk us (bst us L b) = true) ∧ mx (bst us L b) (bst us L b).length ≤ mx b b.length ∧ ∀ l ∈ L, alk us l = true → mx (bst us L b) (bst us L b).length ≤ mx l l.length := by
  induction L with
  | nil => intro b; exact ⟨.inl rfl, Nat.le_refl _, fun l hl => by cases hl⟩
  | cons l L ih =>
    intro b
    obtain ⟨h1, h2, h3⟩ := ih (bst1 us b l)
    have e : bst us (l :: L) b = bst us L (bst1 us b l) := rfl
    have hb : (bst1 us b l = b ∨ bst1 us b l = l ∧ alk us l = true) ∧ mx (bst1 us b l) (bst1 us b l).length ≤ mx b b.length ∧ (alk us l = true → mx (bst1 us b l) (bst1 us b l).length ≤ mx l l.length) := by
      unfold bst1
      split
      · rename_i h
        rw [Bool.and_eq_true, decide_eq_true_eq] at h
        exact ⟨.inr ⟨rfl, h.1⟩, by omega, fun _ => Nat.le_refl _⟩
      · rename_i h
        rw [Bool.and_eq_true, decide_eq_true_eq] at h
        exact ⟨.inl rfl, Nat.le_refl _, fun ha => Nat.le_of_not_lt fun hlt => h ⟨ha, hlt⟩⟩
    rw [e]
    refine ⟨?_, by omega, ?_⟩
    · rcases h1 with h1 | ⟨h1, h4⟩
      · rcases hb.1 with h5 | ⟨h5, h6⟩
        · exact .inl (h1.trans h5)
        · refine .inr ⟨?_, ?_⟩
          · rw [h1, h5]; exact List.mem_cons_self
          · rw [h1, h5]; exact h6
      · exact .inr ⟨List.mem_cons_of_mem _ h1, h4⟩
    · intro m hm ha
      rcases List.mem_cons.1 hm with rfl | hm
      · exact Nat.le_trans h2 (hb.2.2 ha)
      · exact h3 m hm ha
/-- all classes below the number occur -/
theorem rgf_att {l : List Nat} (h : rgf l) (k : Nat) (hk : k ≤ l.length) : ∀ c, c < mx l k → ∃ j, j < k ∧ l.getD j 0 = c := by
  induction k with
  | zero => intro c hc; simp [mx] at hc
  | succ k ih =>
    intro c hc
    rw [mx] at hc
    have h1 := h k (by omega)
    rcases Nat.lt_or_ge c (mx l k) with h2 | h2
    · obtain ⟨j, p, q⟩ := ih (by omega) c h2; exact ⟨j, by omega, q⟩
    · exact ⟨k, by omega, by omega⟩
/-- a finer partition has no fewer classes, and is the same if it has as many -/
theorem rgf_fine {l q : List Nat} (hl : rgf l) (hq : rgf q) (he : l.length = q.length) (hr : ∀ x y, x < l.length → y < l.length → l.getD x 0 = l.getD y 0 → q.getD x 0 = q.getD y 0) :
    mx q q.length ≤ mx l l.length ∧ (mx l l.length ≤ mx q q.length → l = q) := by
  have step : ∀ k, k < l.length → mx q (k + 1) + mx l k ≤ mx l (k + 1) + mx q k := by
    intro k hk
    have h1 := hl k hk
    have h2 := hq k (by omega)
    rw [mx, mx]
    rcases Nat.lt_or_ge (q.getD k 0) (mx q k) with h3 | h3
    · omega
    · rcases Nat.lt_or_ge (l.getD k 0) (mx l k) with h4 | h4
      · obtain ⟨j, p, e⟩ := rgf_att hl k (by omega) _ h4
        have := hr j k (by omega) hk e
        have := mx_gt q (k := k) (i := j) p
        omega
      · omega
  have mono : ∀ d k, k + d ≤ l.length → mx q (k + d) + mx l k ≤ mx l (k + d) + mx q k := by
    intro d
    induction d with
    | zero => intro k _; rw [Nat.add_zero]; omega
    | succ d ih =>
      intro k hk
      have h1 := ih k (by omega)
      have h2 := step (k + d) (by omega)
      rw [show k + (d + 1) = k + d + 1 by omega]
      omega
  have h0 := mono l.length 0 (by omega)
  rw [Nat.zero_add] at h0
  have z1 : mx l 0 = 0 := rfl
  have z2 : mx q 0 = 0 := rfl
  refine ⟨by rw [← he]; omega, fun hle => ?_⟩
  rw [← he] at hle
  have eqk : ∀ k, k ≤ l.length → mx q k = mx l k := by
    intro k hk
    have h1 := mono k 0 (by omega)
    have h2 := mono (l.length - k) k (by omega)
    rw [show k + (l.length - k) = l.length by omega] at h2
    rw [Nat.zero_add] at h1
    omega
  have key : ∀ k, k < l.length → l.getD k 0 = q.getD k 0 := by
    intro k
    induction k using Nat.strongRecOn with
    | ind k ih =>
      intro hk
      have h1 := hl k hk
      have h2 := hq k (by omega)
      have e1 := eqk k (by omega)
      have e2 := eqk (k + 1) (by omega)
      rw [mx, mx] at e2
      rcases Nat.lt_or_ge (l.getD k 0) (mx l k) with h4 | h4
      · obtain ⟨j, p, e⟩ := rgf_att hl k (by omega) _ h4
        have := hr j k (by omega) hk e
        rw [← this, ← e]
        exact ih j p (by omega)
      · omega
  apply List.ext_getElem he
  intro i h1 h2
  have := key i h1
  rwa [List.getD_eq_getElem?_getD, List.getD_eq_getElem?_getD, List.getElem?_eq_getElem h1, List.getElem?_eq_getElem h2] at this
theorem dvd_rgf (key : Nat → Nat) (n : Nat) : rgf (dvd key n).1 ∧ mx (dvd key n).1 n = (dvd key n).2 := by
  induction n with
  | zero => exact ⟨fun i hi => by simp [dvd] at hi, rfl⟩
  | succ n ih =>
    obtain ⟨h1, h2⟩ := ih
    have hl := dvd_length key n
    have e2 : mx (dvd key n).1 (dvd key n).1.length = (dvd key n).2 := by rw [hl]; exact h2
    rw [dvd]
    split
    · rename_i y hy
      have hyn := List.mem_range.1 (List.mem_of_find?_eq_some hy)
      have hg := mx_gt (dvd key n).1 (k := n) (i := y) hyn
      refine ⟨rgf_app.2 ⟨h1, by omega⟩, ?_⟩
      simp only
      have e3 := getD_app2 (dvd key n).1 ((dvd key n).1.getD y 0)
      rw [hl] at e3
      rw [mx, mx_app _ _ _ (by omega), e3]
      omega
    · refine ⟨rgf_app.2 ⟨h1, by omega⟩, ?_⟩
      simp only
      have e3 := getD_app2 (dvd key n).1 (dvd key n).2
      rw [hl] at e3
      rw [mx, mx_app _ _ _ (by omega), e3]
      omega
theorem qcl_rgf (ns us : List Nat) : rgf (qcl ns us) := (dvd_rgf _ _).1
theorem qcl_cor {ns us : List Nat} (h : RelN ns) : corP ns (qcl ns us) := by
  have half : ∀ x y, x < ns.length → y < ns.length → (qcl ns us).getD x 0 = (qcl ns us).getD y 0 → ∀ j, (img (pw (qcl ns us)) (ns.getD x 0)).testBit j = true → (img (pw (qcl ns us)) (ns.getD y 0)).testBit j = true := by
    intro x y hx hy hc j hj
    have hb := (qcl_eq h hx hy).1 hc
    rw [bz_steady (A := (ns, us)) (B := (ns, us)) h h 16 (Nat.le_refl _) hx hy, bz_succ (A := (ns, us)) (B := (ns, us)) h h 16 hx hy] at hb
    obtain ⟨v, hv, hm, rfl⟩ := (img_pw_bit _ _).1 hj
    rw [qcl_length] at hv
    obtain ⟨t, p, q, r⟩ := hb.2.1 v hv hm
    exact (img_pw_bit _ _).2 ⟨t, by rw [qcl_length]; exact p, q, ((qcl_eq h hv p).2 r).symm⟩
  intro x hx y hy hc
  rw [qcl_length] at hx hy
  apply Nat.eq_of_testBit_eq
  intro j
  rw [Bool.eq_iff_iff]
  exact ⟨half x y hx hy hc j, half y x hy hx hc.symm j⟩
theorem atm_get {us ts : List Nat} {x y : Nat} : atm us ts x y = true ↔ ∀ v, v < 6 → (us.getD v 0).testBit x = (ts.getD v 0).testBit y := by
  unfold atm
  rw [List.all_eq_true]
  constructor
  · intro h v hv; exact beq_iff_eq.1 (h v (List.mem_range.2 hv))
  · intro h v hv; exact beq_iff_eq.2 (h v (List.mem_range.1 hv))
theorem qcl_alk {ns us : List Nat} (h : MdN ns us) : alkP us (qcl ns us) := by
  intro x hx y hy v hv hc
  rw [qcl_length] at hx
  have hb := bz_le (A := (ns, us)) (B := (ns, us)) h.r h.r (Nat.zero_le 16) hx (by show y < ns.length; omega) ((qcl_eq h.r hx (by omega)).1 hc)
  rw [bz_zero (ns, us) (ns, us) hx (by show y < ns.length; omega)] at hb
  exact atm_get.1 hb v (by rw [← h.l]; exact hv)
theorem part_bz {ns us l : List Nat} (h : MdN ns us) (hl : l.length = ns.length) (hc : corP ns l) (ha : alkP us l) (k : Nat) : ∀ x y, x < ns.length → y < ns.length → l.getD x 0 = l.getD y 0 → bz k (ns, us) (ns, us) x y = true := by
  have hat : ∀ x y, x < ns.length → y < ns.length → l.getD x 0 = l.getD y 0 → atm us us x y = true := by
    intro x y hx hy he
    refine atm_get.2 fun v hv => ?_
    rcases Nat.lt_trichotomy x y with h1 | h1 | h1
    · exact (ha y (by omega) x h1 v (by rw [h.l]; exact hv) he.symm).symm
    · rw [h1]
    · exact ha x (by omega) y h1 v (by rw [h.l]; exact hv) he
  induction k with
  | zero => intro x y hx hy he; rw [bz_zero (ns, us) (ns, us) hx hy]; exact hat x y hx hy he
  | succ k ih =>
    intro x y hx hy he
    have hi := hc x (by omega) y (by omega) he
    rw [bz_succ (A := (ns, us)) (B := (ns, us)) h.r h.r k hx hy]
    refine ⟨hat x y hx hy he, fun s hs hr => ?_, fun t ht hr => ?_⟩
    · have hb : (img (pw l) (ns.getD x 0)).testBit (l.getD s 0) = true := (img_pw_bit _ _).2 ⟨s, by rw [hl]; exact hs, hr, rfl⟩
      rw [hi] at hb
      obtain ⟨t, p, q, r⟩ := (img_pw_bit _ _).1 hb
      rw [hl] at p
      exact ⟨t, p, q, ih s t hs p r.symm⟩
    · have hb : (img (pw l) (ns.getD y 0)).testBit (l.getD t 0) = true := (img_pw_bit _ _).2 ⟨t, by rw [hl]; exact ht, hr, rfl⟩
      rw [← hi] at hb
      obtain ⟨s, p, q, r⟩ := (img_pw_bit _ _).1 hb
      rw [hl] at p
      exact ⟨s, p, q, ih s t p ht r⟩
theorem range_cor (ns : List Nat) : corP ns (List.range ns.length) := by
  intro x hx y hy he
  rw [List.length_range] at hx hy
  rw [range_getD hx, range_getD hy] at he
  rw [he]
theorem range_alk (us : List Nat) (n : Nat) : alkP us (List.range n) := by
  intro x hx y hy v _ he
  rw [List.length_range] at hx
  rw [range_getD hx, range_getD (by omega)] at he
  omega
theorem range_rgf (n : Nat) : rgf (List.range n) := fun i hi => by
  rw [List.length_range] at hi
  rw [range_getD hi, mx_range n i (by omega)]
  exact Nat.le_refl _
theorem cps_last (ns : List Nat) : ∃ L, cps ns = L ++ [List.range ns.length] := by
  obtain ⟨L, h⟩ := prt_last ns.length
  refine ⟨L.filter (cor ns), ?_⟩
  unfold cps
  rw [h, List.filter_append, List.filter_cons_of_pos (by unfold cor; exact decide_eq_true (range_cor ns)), List.filter_nil]
theorem cps_mem (ns l : List Nat) : l ∈ cps ns ↔ l.length = ns.length ∧ rgf l ∧ corP ns l := by
  unfold cps cor
  rw [List.mem_filter, prt_mem, decide_eq_true_eq, and_assoc]
theorem merge_best {ns us : List Nat} (h : MdN ns us) : bst us (cps ns) (List.range ns.length) = qcl ns us := by
  obtain ⟨h1, h2, h3⟩ := bst_spec us (cps ns) (List.range ns.length)
  have hq : qcl ns us ∈ cps ns := (cps_mem ns _).2 ⟨qcl_length ns us, qcl_rgf ns us, qcl_cor h.r⟩
  have hr : List.range ns.length ∈ cps ns := (cps_mem ns _).2 ⟨List.length_range, range_rgf _, range_cor ns⟩
  have hb : bst us (cps ns) (List.range ns.length) ∈ cps ns ∧ alkP us (bst us (cps ns) (List.range ns.length)) := by
    rcases h1 with h1 | ⟨h1, h4⟩
    · rw [h1]; exact ⟨hr, range_alk us _⟩
    · exact ⟨h1, of_decide_eq_true h4⟩
  generalize bst us (cps ns) (List.range ns.length) = b at *
  obtain ⟨b1, b2, b3⟩ := (cps_mem ns b).1 hb.1
  have hle := h3 _ hq (decide_eq_true (qcl_alk h))
  refine (rgf_fine b2 (qcl_rgf ns us) (by rw [b1, qcl_length]) fun x y hx hy he => ?_).2 hle
  rw [b1] at hx hy
  exact (qcl_eq h.r hx hy).2 (part_bz h b1 b3 hb.2 16 x y hx hy he)
/-- the order of the classes: of each the images of its first member -/
def qpf (ns l : List Nat) : Nat → List Nat
  | 0 => []
  | x + 1 => if l.getD x 0 = (qpf ns l x).length then qpf ns l x ++ [img (pw l) (ns.getD x 0)] else qpf ns l x
theorem qpf_spec {ns l : List Nat} (h : rgf l) (x : Nat) (hx : x ≤ l.length) : (qpf ns l x).length = mx l x ∧ ∀ c, c < mx l x → ∃ w, w < x ∧ l.getD w 0 = c ∧ (qpf ns l x).getD c 0 = img (pw l) (ns.getD w 0) := by
  induction x with
  | zero => exact ⟨rfl, fun c hc => by simp [mx] at hc⟩
  | succ x ih =>
    obtain ⟨h1, h2⟩ := ih (by omega)
    have h3 := h x (by omega)
    rw [qpf, mx]
    split
    · rename_i he
      rw [h1] at he
      refine ⟨by rw [List.length_append, h1, List.length_singleton]; omega, fun c hc => ?_⟩
      rcases Nat.lt_or_ge c (mx l x) with h4 | h4
      · obtain ⟨w, p, q, r⟩ := h2 c h4
        exact ⟨w, by omega, q, by rw [getD_app1 _ _ _ (by omega)]; exact r⟩
      · obtain rfl : c = mx l x := by omega
        have e3 := getD_app2 (qpf ns l x) (img (pw l) (ns.getD x 0))
        rw [h1] at e3
        exact ⟨x, by omega, he, e3⟩
    · rename_i he
      rw [h1] at he
      refine ⟨by omega, fun c hc => ?_⟩
      obtain ⟨w, p, q, r⟩ := h2 c (by omega)
      exact ⟨w, by omega, q, r⟩
theorem merge_quot {ns us : List Nat} (h : MdN ns us) : qpf ns (qcl ns us) ns.length = (QM ns us).1 := by
  obtain ⟨h1, h2⟩ := qpf_spec (ns := ns) (qcl_rgf ns us) ns.length (by rw [qcl_length]; exact Nat.le_refl _)
  have e : mx (qcl ns us) ns.length = qn ns us := by unfold qn; rw [qcl_length]
  rw [e] at h1 h2
  apply List.ext_getElem (by rw [h1, QM_len])
  intro c p q
  rw [h1] at p
  obtain ⟨w, hw, hc, hg⟩ := h2 c p
  have g1 : (qpf ns (qcl ns us) ns.length)[c] = (qpf ns (qcl ns us) ns.length).getD c 0 := by rw [List.getD_eq_getElem?_getD, List.getElem?_eq_getElem]; rfl
  have g2 : (QM ns us).1[c] = (QM ns us).1.getD c 0 := by rw [List.getD_eq_getElem?_getD, List.getElem?_eq_getElem]; rfl
  rw [g1, g2, hg]
  apply Nat.eq_of_testBit_eq
  intro j
  rw [Bool.eq_iff_iff, QM_arrow]
  constructor
  · intro hb
    obtain ⟨v, p, q, r⟩ := (img_pw_bit _ _).1 hb
    rw [qcl_length] at p
    exact ⟨w, hw, hc, v, p, q, r⟩
  · rintro ⟨w', hw', hc', v, p, q, r⟩
    rw [qcl_cor h.r w (by rw [qcl_length]; exact hw) w' (by rw [qcl_length]; exact hw') (hc.trans hc'.symm)]
    exact (img_pw_bit _ _).2 ⟨v, by rw [qcl_length]; exact p, q, r⟩
/- Plain words of all partitions in the order the reference makes them. No program in sight. -/
def lil (L : List (List Nat)) : List (List Int) := L.map li
theorem lil_length (L : List (List Nat)) : (lil L).length = L.length := by simp [lil]
theorem lil_get (L : List (List Nat)) (i : Nat) (h : i < (lil L).length) : (lil L)[i] = li (L[i]'(by rwa [lil_length] at h)) := by simp [lil]
theorem lil_snoc (L : List (List Nat)) (l : List Nat) : lil (L ++ [l]) = lil L ++ [li l] := by simp [lil]
theorem li_snocP (l : List Nat) (v : Nat) : li (l ++ [v]) = li l ++ [(v : Int)] := by simp [li]
def pgr (l : List Nat) (k : Nat) : List (List Nat) := (List.range k).map fun v => l ++ [v]
theorem pgr_succ (l : List Nat) (k : Nat) : pgr l (k + 1) = pgr l k ++ [l ++ [k]] := by
  unfold pgr
  rw [List.range_succ, List.map_append]
  rfl
theorem pgr_length (l : List Nat) (k : Nat) : (pgr l k).length = k := by simp [pgr]
/-- the partitions made of the first i of the shorter ones -/
def pst (x i : Nat) : List (List Nat) := ((prt x).take i).flatMap fun l => pgr l (mx l l.length + 1)
theorem pst_zero (x : Nat) : pst x 0 = [] := by simp [pst]
theorem pst_succ {x i : Nat} (h : i < (prt x).length) : pst x (i + 1) = pst x i ++ pgr (prt x)[i] (mx (prt x)[i] (prt x)[i].length + 1) := by
  unfold pst
  rw [List.take_succ_eq_append_getElem h, List.flatMap_append, List.flatMap_singleton]
theorem pst_full (x : Nat) : pst x (prt x).length = prt (x + 1) := by
  unfold pst
  rw [List.take_length]
  rfl
theorem prt_small : ∀ x, x < 7 → (prt x).length ≤ 203 ∧ ∀ l ∈ prt x, l.length = x ∧ (∀ c ∈ l, c < 8) ∧ mx l l.length ≤ x := by decide +kernel
theorem pst_mono (x i j : Nat) (h : i ≤ j) : (pst x i).length ≤ (pst x j).length := by
  obtain ⟨d, rfl⟩ : ∃ d, j = i + d := ⟨j - i, by omega⟩
  unfold pst
  rw [List.take_add, List.flatMap_append, List.length_append]
  exact Nat.le_add_right _ _
theorem pst_len {x i : Nat} (hx : x < 6) (hi : i ≤ (prt x).length) : (pst x i).length ≤ 203 := by
  have h1 := pst_mono x i (prt x).length hi
  rw [pst_full] at h1
  exact Nat.le_trans h1 (prt_small (x + 1) (by omega)).1
/-- the correct ones of the first i -/
def cpt (ns : List Nat) (i : Nat) : List (List Nat) := ((prt ns.length).take i).filter (cor ns)
theorem cpt_zero (ns : List Nat) : cpt ns 0 = [] := by simp [cpt]
theorem cpt_succ {ns : List Nat} {i : Nat} (h : i < (prt ns.length).length) : cpt ns (i + 1) = if cor ns (prt ns.length)[i] = true then cpt ns i ++ [(prt ns.length)[i]] else cpt ns i := by
  unfold cpt
  rw [List.take_succ_eq_append_getElem h, List.filter_append]
  split
  · rename_i hc; rw [List.filter_cons_of_pos hc, List.filter_nil]
  · rename_i hc; rw [List.filter_cons_of_neg hc, List.filter_nil, List.append_nil]
theorem cpt_full (ns : List Nat) : cpt ns (prt ns.length).length = cps ns := by
  unfold cpt
  rw [List.take_length]
  rfl
theorem cpt_len (ns : List Nat) (i : Nat) : (cpt ns i).length ≤ (prt ns.length).length := by
  unfold cpt
  refine Nat.le_trans (List.length_filter_le _ _) ?_
  rw [List.length_take]
  exact Nat.min_le_right _ _
theorem cps_ok {ns : List Nat} (h : ns.length < 7) : ∀ l ∈ cps ns, l.length = ns.length ∧ (∀ c ∈ l, c < 8) ∧ mx l l.length ≤ ns.length := fun l hl => (prt_small ns.length h).2 l (List.mem_filter.1 hl).1
theorem cps_len {ns : List Nat} (h : ns.length < 7) : (cps ns).length ≤ 203 := by
  have := cpt_len ns (prt ns.length).length
  rw [cpt_full] at this
  exact Nat.le_trans this (prt_small ns.length h).1
theorem cps_pos (ns : List Nat) : 0 < (cps ns).length := by
  obtain ⟨L, h⟩ := cps_last ns
  rw [h]; simp
theorem cps_end (ns : List Nat) (h : (cps ns).length - 1 < (cps ns).length) : (cps ns)[(cps ns).length - 1] = List.range ns.length := by
  obtain ⟨L, e⟩ := cps_last ns
  have h2 : (cps ns)[(cps ns).length - 1]? = some (List.range ns.length) := by
    rw [e]; simp
  rw [List.getElem?_eq_getElem h] at h2
  injection h2
theorem bst_succ (us b : List Nat) {L : List (List Nat)} {i : Nat} (h : i < L.length) : bst us (L.take (i + 1)) b = bst1 us (bst us (L.take i) b) L[i] := by
  unfold bst
  rw [List.take_succ_eq_append_getElem h, List.foldl_append]
  rfl
theorem bst_mem (us : List Nat) (L : List (List Nat)) (b : List Nat) (hb : b ∈ L) (i : Nat) : bst us (L.take i) b ∈ L := by
  rcases (bst_spec us (L.take i) b).1 with h | h
  · rw [h]; exact hb
  · exact List.mem_of_mem_take h.1
theorem qpf_len (ns l : List Nat) (x : Nat) : (qpf ns l x).length ≤ x := by
  induction x with
  | zero => exact Nat.le_refl _
  | succ x ih =>
    rw [qpf]
    split
    · rw [List.length_append, List.length_singleton]; omega
    · omega
end Go.Proofs.Ytkllbehdmlbhaaa
