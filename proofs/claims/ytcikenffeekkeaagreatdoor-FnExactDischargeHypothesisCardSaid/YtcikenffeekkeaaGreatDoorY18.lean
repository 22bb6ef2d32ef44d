/- Joined of several texts: M33o, Fr, 33p, 33c. -/
import Derived.Test.YtcikenffeekkeaaGreatDoorY16
import Derived.Test.YtcikenffeekkeaaGreatDoorY17
import Derived.Test.YtcikenffeekkeaaGreatDoorY03
import Derived.Test.YtcikenffeekkeaaGreatDoorY11
namespace Go.Proofs.YtcikenffeekkeaaGreatDoor
open Go.RowKit
set_option linter.unusedVariables false
set_option linter.unusedSimpArgs false
/- Plain words of chapter 33: the outer parts of a formula, formulas with replaced outer parts, the built fixed points. No program in sight. -/
def Fm.occ : Fm → Nat → Bool
  | .var t, s => t == s
  | .fls, _ => false
  | .bin _ a b, s => a.occ s || b.occ s
  | .un _ a, s => a.occ s
theorem occ_append (xs ys : List Nd) (t : Int) : Go.Proofs.YtcikenffeekkeaaGreatDoor.occ (xs ++ ys) t = (Go.Proofs.YtcikenffeekkeaaGreatDoor.occ xs t || Go.Proofs.YtcikenffeekkeaaGreatDoor.occ ys t) := by simp [Go.Proofs.YtcikenffeekkeaaGreatDoor.occ]
theorem occ_enc (f : Fm) (s : Nat) : Go.Proofs.YtcikenffeekkeaaGreatDoor.occ (enc f) (s : Int) = f.occ s := by
  induction f with
  | var t =>
    simp only [enc, Go.Proofs.YtcikenffeekkeaaGreatDoor.occ, Fm.occ, List.any_cons, List.any_nil, Bool.or_false]
    by_cases h : t = s
    · subst h; simp
    · have h2 : ((t : Int) == (s : Int)) = false := by rw [beq_eq_false_iff_ne]; omega
      have h3 : (t == s) = false := by rw [beq_eq_false_iff_ne]; exact h
      rw [h2, h3]; rfl
  | fls => rfl
  | bin k a b iha ihb =>
    have e : enc (.bin k a b) = [(k.i, 0)] ++ (enc a ++ enc b) := rfl
    rw [e, occ_append, occ_append, iha, ihb]
    have : Go.Proofs.YtcikenffeekkeaaGreatDoor.occ [(k.i, 0)] (s : Int) = false := by cases k <;> rfl
    rw [this]; rfl
  | un k a ih =>
    have e : enc (.un k a) = [(k.i, 0)] ++ enc a := rfl
    rw [e, occ_append, ih]
    have : Go.Proofs.YtcikenffeekkeaaGreatDoor.occ [(k.i, 0)] (s : Int) = false := by cases k <;> rfl
    rw [this]; rfl
/-- is a formula among those of a list? -/
def isin (l : List Fm) (g : Fm) : Bool := l.any fun h => decide (enc h = enc g)
/-- a list with a formula put behind it, if it is not there -/
def ins (l : List Fm) (g : Fm) : List Fm := if isin l g then l else l ++ [g]
/-- the outer parts, as they come -/
def occs (s : Nat) : Fm → List Fm
  | .un k a => if a.occ s then [.un k a] else []
  | .bin _ a b => occs s a ++ occs s b
  | _ => []
/-- the outer parts, each once, put behind a list -/
def outs (s : Nat) (f : Fm) (l : List Fm) : List Fm := (occs s f).foldl ins l
theorem outs_bin (s : Nat) (k : BK) (a b : Fm) (l : List Fm) : outs s (.bin k a b) l = outs s b (outs s a l) := by unfold outs; rw [occs, List.foldl_append]
theorem outs_un (s : Nat) (k : UK) (a : Fm) (l : List Fm) (h : a.occ s = true) : outs s (.un k a) l = if isin l (.un k a) then l else l ++ [.un k a] := by unfold outs; rw [occs, if_pos h]; rfl
theorem occs_no {s : Nat} {f : Fm} (h : f.occ s = false) : occs s f = [] := by
  induction f with
  | var t => rfl
  | fls => rfl
  | bin k a b iha ihb =>
    simp only [Fm.occ, Bool.or_eq_false_iff] at h
    rw [occs, iha h.1, ihb h.2]; rfl
  | un k a ih => rw [occs, if_neg (by rw [show a.occ s = false from h]; decide)]
theorem outs_no {s : Nat} {f : Fm} (h : f.occ s = false) (l : List Fm) : outs s f l = l := by unfold outs; rw [occs_no h]; rfl
theorem occs_mem {s : Nat} {f g : Fm} (h : g ∈ occs s f) : ∃ k a, g = .un k a ∧ a.occ s = true := by
  induction f with
  | var t => simp [occs] at h
  | fls => simp [occs] at h
  | bin k a b iha ihb =>
    rw [occs, List.mem_append] at h
    exact h.elim iha ihb
  | un k a ih =>
    rw [occs] at h
    split at h
    · rename_i ho
      exact ⟨k, a, by simpa using h, ho⟩
    · simp at h
theorem occs_self {s : Nat} {g f : Fm} (h : g ∈ occs s f) : occs s g = [g] := by
  obtain ⟨k, a, rfl, ho⟩ := occs_mem h
  rw [occs, if_pos ho]
theorem occs_len {s : Nat} {f g : Fm} (h : g ∈ occs s f) : 2 ≤ (enc g).length ∧ (enc g).length ≤ (enc f).length := by
  refine ⟨?_, ?_⟩
  · obtain ⟨k, a, rfl, -⟩ := occs_mem h
    have := enc_pos a
    simp [enc]; omega
  · induction f with
    | var t => simp [occs] at h
    | fls => simp [occs] at h
    | bin k a b iha ihb =>
      rw [occs, List.mem_append] at h
      simp only [enc, List.length_cons, List.length_append]
      rcases h with h | h
      · have := iha h; omega
      · have := ihb h; omega
    | un k a ih =>
      rw [occs] at h
      split at h
      · have : g = .un k a := by simpa using h
        rw [this]; exact Nat.le_refl _
      · simp at h
/-- a formula with its outer parts replaced -/
def repO (s : Nat) (r : Fm → Fm) : Fm → Fm
  | .un k a => if a.occ s then r (.un k a) else .un k a
  | .bin k a b => .bin k (repO s r a) (repO s r b)
  | f => f
theorem repO_no {s : Nat} {f : Fm} (r : Fm → Fm) (h : f.occ s = false) : repO s r f = f := by
  induction f with
  | var t => rfl
  | fls => rfl
  | bin k a b iha ihb =>
    simp only [Fm.occ, Bool.or_eq_false_iff] at h
    rw [repO, iha h.1, ihb h.2]
  | un k a ih => rw [repO, if_neg (by rw [show a.occ s = false from h]; decide)]
theorem repO_congr {s : Nat} {f : Fm} {r r' : Fm → Fm} (h : ∀ g ∈ occs s f, r g = r' g) : repO s r f = repO s r' f := by
  induction f with
  | var t => rfl
  | fls => rfl
  | bin k a b iha ihb =>
    rw [repO, repO, iha fun g hg => h g (by rw [occs, List.mem_append]; exact .inl hg), ihb fun g hg => h g (by rw [occs, List.mem_append]; exact .inr hg)]
  | un k a ih =>
    rw [repO, repO]
    split
    · rename_i ho
      exact h _ (by rw [occs, if_pos ho]; simp)
    · rfl
theorem occs_repO (s : Nat) (r : Fm → Fm) (f : Fm) : occs s (repO s r f) = (occs s f).flatMap fun g => occs s (r g) := by
  induction f with
  | var t => rfl
  | fls => rfl
  | bin k a b iha ihb => rw [repO, occs, occs, iha, ihb, List.flatMap_append]
  | un k a ih =>
    rw [repO, occs]
    split
    · rw [List.flatMap_cons, List.flatMap_nil, List.append_nil]
    · rename_i ho
      rw [occs, if_neg ho]; rfl
theorem repO_size {s : Nat} {r : Fm → Fm} {f : Fm} (h : ∀ g ∈ occs s f, (enc (r g)).length + (occs s (r g)).length ≤ (enc g).length + 1) :
    (enc (repO s r f)).length + (occs s (repO s r f)).length ≤ (enc f).length + (occs s f).length := by
  induction f with
  | var t => exact Nat.le_refl _
  | fls => exact Nat.le_refl _
  | bin k a b iha ihb =>
    have h1 := iha fun g hg => h g (by rw [occs, List.mem_append]; exact .inl hg)
    have h2 := ihb fun g hg => h g (by rw [occs, List.mem_append]; exact .inr hg)
    simp only [repO, enc, occs, List.length_cons, List.length_append] at *
    omega
  | un k a ih =>
    by_cases ho : a.occ s = true
    · have := h (.un k a) (by rw [occs, if_pos ho]; simp)
      rw [repO, if_pos ho]
      rw [show occs s (.un k a) = [.un k a] by rw [occs, if_pos ho]]
      simpa using this
    · rw [repO, if_neg ho]; exact Nat.le_refl _
theorem repO_ge {s : Nat} {r : Fm → Fm} {f : Fm} (h : ∀ g ∈ occs s f, (enc g).length ≤ (enc (r g)).length) : (enc f).length ≤ (enc (repO s r f)).length := by
  induction f with
  | var t => exact Nat.le_refl _
  | fls => exact Nat.le_refl _
  | bin k a b iha ihb =>
    have h1 := iha fun g hg => h g (by rw [occs, List.mem_append]; exact .inl hg)
    have h2 := ihb fun g hg => h g (by rw [occs, List.mem_append]; exact .inr hg)
    simp only [repO, enc, List.length_cons, List.length_append] at *
    omega
  | un k a ih =>
    by_cases ho : a.occ s = true
    · have := h (.un k a) (by rw [occs, if_pos ho]; simp)
      rw [repO, if_pos ho]; exact this
    · rw [repO, if_neg ho]; exact Nat.le_refl _
theorem repO_has {s : Nat} {r : Fm → Fm} {f g : Fm} (h : g ∈ occs s f) : (enc (r g)).length ≤ (enc (repO s r f)).length := by
  induction f with
  | var t => simp [occs] at h
  | fls => simp [occs] at h
  | bin k a b iha ihb =>
    rw [occs, List.mem_append] at h
    simp only [repO, enc, List.length_cons, List.length_append]
    rcases h with h | h
    · have := iha h; omega
    · have := ihb h; omega
  | un k a ih =>
    by_cases ho : a.occ s = true
    · rw [occs, if_pos ho] at h
      have : g = .un k a := by simpa using h
      rw [repO, if_pos ho, this]; exact Nat.le_refl _
    · rw [occs, if_neg ho] at h; simp at h
theorem repO_le {s : Nat} {r : Fm → Fm} {f : Fm} {M : Nat} (h1 : 1 ≤ M) (h : ∀ g ∈ occs s f, (enc (r g)).length ≤ M) : (enc (repO s r f)).length ≤ (enc f).length * M := by
  induction f with
  | var t => simp only [repO, enc, List.length_cons, List.length_nil]; omega
  | fls => simp only [repO, enc, List.length_cons, List.length_nil]; omega
  | bin k a b iha ihb =>
    have h1 := iha fun g hg => h g (by rw [occs, List.mem_append]; exact .inl hg)
    have h2 := ihb fun g hg => h g (by rw [occs, List.mem_append]; exact .inr hg)
    simp only [repO, enc, List.length_cons, List.length_append, Nat.add_mul, Nat.one_mul] at *
    omega
  | un k a ih =>
    by_cases ho : a.occ s = true
    · have := h (.un k a) (by rw [occs, if_pos ho]; simp)
      rw [repO, if_pos ho]
      simp only [enc, List.length_cons, Nat.add_mul, Nat.one_mul]
      omega
    · rw [repO, if_neg ho]; exact Nat.le_mul_of_pos_right _ h1
theorem repO_ok {s : Nat} {r : Fm → Fm} {f : Fm} (hf : f.ok = true) (h : ∀ g ∈ occs s f, (r g).ok = true) : (repO s r f).ok = true := by
  induction f with
  | var t => exact hf
  | fls => rfl
  | bin k a b iha ihb =>
    simp only [Fm.ok, Bool.and_eq_true] at hf
    have h1 := iha hf.1 fun g hg => h g (by rw [occs, List.mem_append]; exact .inl hg)
    have h2 := ihb hf.2 fun g hg => h g (by rw [occs, List.mem_append]; exact .inr hg)
    simp only [repO, Fm.ok, Bool.and_eq_true]
    exact ⟨h1, h2⟩
  | un k a ih =>
    by_cases ho : a.occ s = true
    · rw [repO, if_pos ho]; exact h (.un k a) (by rw [occs, if_pos ho]; simp)
    · rw [repO, if_neg ho]; exact hf
theorem repO_gd {s : Nat} {r : Fm → Fm} {f : Fm} (hf : gd f s = true) (h : ∀ g ∈ occs s f, gd (r g) s = true) : gd (repO s r f) s = true := by
  induction f with
  | var t => exact hf
  | fls => rfl
  | bin k a b iha ihb =>
    simp only [gd, Bool.and_eq_true] at hf
    have h1 := iha hf.1 fun g hg => h g (by rw [occs, List.mem_append]; exact .inl hg)
    have h2 := ihb hf.2 fun g hg => h g (by rw [occs, List.mem_append]; exact .inr hg)
    simp only [repO, gd, Bool.and_eq_true]
    exact ⟨h1, h2⟩
  | un k a ih =>
    by_cases ho : a.occ s = true
    · rw [repO, if_pos ho]; exact h (.un k a) (by rw [occs, if_pos ho]; simp)
    · rw [repO, if_neg ho]; rfl
theorem gd_occ {s : Nat} {f : Fm} (hf : gd f s = true) : f.occ s = true ↔ occs s f ≠ [] := by
  constructor
  · intro ho
    induction f with
    | var t => simp [gd, Fm.occ] at hf ho; exact absurd ho hf
    | fls => cases ho
    | bin k a b iha ihb =>
      simp only [gd, Bool.and_eq_true] at hf
      simp only [Fm.occ, Bool.or_eq_true] at ho
      rw [occs]
      rcases ho with ho | ho
      · have := iha hf.1 ho
        simp [this]
      · have := ihb hf.2 ho
        simp [this]
    | un k a ih => rw [occs, if_pos (show a.occ s = true from ho)]; simp
  · intro h
    cases ho : f.occ s
    · exact absurd (occs_no ho) h
    · rfl
theorem enc_in {l : List Fm} {g : Fm} : isin l g = true ↔ enc g ∈ l.map enc := by
  unfold isin
  rw [List.any_eq_true, List.mem_map]
  constructor
  · rintro ⟨h, h1, h2⟩; exact ⟨h, h1, by simpa using h2⟩
  · rintro ⟨h, h1, h2⟩; exact ⟨h, h1, by simpa using h2⟩
theorem ins_nodup {l : List Fm} (h : (l.map enc).Nodup) (g : Fm) : ((ins l g).map enc).Nodup := by
  unfold ins
  split
  · exact h
  · rename_i hn
    rw [List.map_append, List.nodup_append]
    refine ⟨h, by simp, fun a ha b hb e => ?_⟩
    have hb' : b = enc g := by simpa using hb
    subst e
    exact hn (enc_in.2 (hb' ▸ ha))
theorem ins_mem {l : List Fm} {g x : Fm} (h : x ∈ ins l g) : x ∈ l ∨ x = g := by
  unfold ins at h
  split at h
  · exact .inl h
  · rw [List.mem_append, List.mem_singleton] at h; exact h
theorem ins_in (l : List Fm) (g : Fm) : isin (ins l g) g = true ∧ ∀ x, isin l x = true → isin (ins l g) x = true := by
  unfold ins
  split
  · rename_i h; exact ⟨h, fun x hx => hx⟩
  · refine ⟨by simp [isin], fun x hx => ?_⟩
    unfold isin at *
    rw [List.any_append, hx]; rfl
theorem fold_nodup : ∀ (L l : List Fm), (l.map enc).Nodup → ((L.foldl ins l).map enc).Nodup
  | [], l, h => h
  | g :: L, l, h => fold_nodup L _ (ins_nodup h g)
theorem fold_mem : ∀ (L l : List Fm) (x : Fm), x ∈ L.foldl ins l → x ∈ l ∨ x ∈ L
  | [], l, x, h => .inl h
  | g :: L, l, x, h => by
    rcases fold_mem L (ins l g) x h with h | h
    · rcases ins_mem h with h | h
      · exact .inl h
      · subst h; exact .inr List.mem_cons_self
    · exact .inr (List.mem_cons_of_mem _ h)
theorem fold_in : ∀ (L l : List Fm) (x : Fm), (isin l x = true ∨ x ∈ L) → isin (L.foldl ins l) x = true
  | [], l, x, h => h.elim id fun h => by cases h
  | g :: L, l, x, h => by
    refine fold_in L _ x ?_
    rcases h with h | h
    · exact .inl ((ins_in l g).2 x h)
    · rcases List.mem_cons.1 h with rfl | h
      · exact .inl (ins_in l x).1
      · exact .inr h
theorem nodup_le {α : Type} [DecidableEq α] : ∀ (l m : List α), l.Nodup → (∀ x ∈ l, x ∈ m) → l.length ≤ m.length
  | [], m, _, _ => Nat.zero_le _
  | x :: l, m, hn, hs => by
    rw [List.nodup_cons] at hn
    have hx := hs x List.mem_cons_self
    have := nodup_le l (m.erase x) hn.2 fun y hy => (List.mem_erase_of_ne (show y ≠ x from fun e => hn.1 (by rw [← e]; exact hy))).2 (hs y (List.mem_cons_of_mem _ hy))
    rw [List.length_erase_of_mem hx] at this
    have hp := List.length_pos_of_mem hx
    rw [List.length_cons]; omega
theorem outs_mem {s : Nat} {f x : Fm} (h : x ∈ outs s f []) : x ∈ occs s f := (fold_mem _ _ _ h).elim (fun h => by cases h) id
theorem outs_length (s : Nat) (f : Fm) : (outs s f []).length ≤ (occs s f).length := by
  have h := nodup_le _ ((occs s f).map enc) (fold_nodup (occs s f) [] (by simp)) fun x hx => by
    obtain ⟨g, hg, rfl⟩ := List.mem_map.1 hx
    exact List.mem_map.2 ⟨g, outs_mem hg, rfl⟩
  simpa [outs] using h
theorem outs_nil {s : Nat} {f : Fm} : outs s f [] = [] ↔ occs s f = [] := by
  constructor
  · intro h
    cases ho : occs s f with
    | nil => rfl
    | cons g L =>
      have := fold_in (occs s f) [] g (.inr (by rw [ho]; exact List.mem_cons_self))
      rw [show (occs s f).foldl ins [] = [] from h] at this
      cases this
  · intro h; unfold outs; rw [h]; rfl
/-- where a formula is in a list -/
def ix (O : List Fm) (g : Fm) : Nat := O.findIdx fun h => decide (enc h = enc g)
/-- the image of a formula, which stands where the formula stands in another list -/
def ims (O I : List Fm) (g : Fm) : Fm := I.getD (ix O g) .fls
theorem ix_lt {O : List Fm} {g : Fm} (h : isin O g = true) : ix O g < O.length := by
  unfold isin at h
  unfold ix
  rw [List.any_eq_true] at h
  exact List.findIdx_lt_length_of_exists (by obtain ⟨x, h1, h2⟩ := h; exact ⟨x, h1, h2⟩)
theorem ix_at {O : List Fm} {g : Fm} (h : ix O g < O.length) : enc (O.getD (ix O g) .fls) = enc g := by
  have h2 : O.findIdx (fun h => decide (enc h = enc g)) < O.length := h
  have := List.findIdx_getElem (w := h2)
  rw [List.getD_eq_getElem?_getD, List.getElem?_eq_getElem h]
  exact of_decide_eq_true this
theorem ix_self {O : List Fm} (h : (O.map enc).Nodup) {i : Nat} (hi : i < O.length) : ix O (O.getD i .fls) = i := by
  have hl : ix O (O.getD i .fls) < O.length := ix_lt (enc_in.2 (List.mem_map.2 ⟨_, by rw [List.getD_eq_getElem?_getD, List.getElem?_eq_getElem hi]; exact List.getElem_mem hi, rfl⟩))
  have hx := ix_at hl
  generalize ix O (O.getD i .fls) = j at *
  rw [List.getD_eq_getElem?_getD, List.getD_eq_getElem?_getD, List.getElem?_eq_getElem hi, List.getElem?_eq_getElem hl] at hx
  refine (List.getElem?_inj (by simpa using hl) h).1 ?_
  rw [List.getElem?_map, List.getElem?_map, List.getElem?_eq_getElem hi, List.getElem?_eq_getElem hl]
  exact congrArg some hx
theorem ix_outs {s : Nat} {f g : Fm} (h : g ∈ occs s f) : ix (outs s f []) g < (outs s f []).length := ix_lt (fold_in _ _ _ (.inr h))
/-- the true formula -/
def truF : Fm := .bin .imp .fls .fls
def isbox : Fm → Bool
  | .un .box _ => true
  | _ => false
/-- what the i-th outer part is replaced by -/
def cst1 (g : Fm) : Fm := if isbox g then truF else .fls
theorem cst1_ok (g : Fm) : (cst1 g).ok = true := by unfold cst1; split <;> rfl
theorem cst1_gd (g : Fm) (s : Nat) : gd (cst1 g) s = true := by unfold cst1; split <;> rfl
theorem cst1_len (g : Fm) : (enc (cst1 g)).length ≤ 3 := by unfold cst1; split <;> decide
theorem cst1_occs (g : Fm) (s : Nat) : occs s (cst1 g) = [] := by unfold cst1; split <;> rfl
/-- the formula with its i-th outer part replaced by what is constant -/
def wto (s : Nat) (f : Fm) (i : Nat) : Fm := repO s (ims (outs s f []) ((outs s f []).set i (cst1 ((outs s f []).getD i .fls)))) f
theorem ims_set {O : List Fm} {i : Nat} {c g : Fm} (h : ix O g < O.length) : ims O (O.set i c) g = if ix O g = i then c else O.getD (ix O g) .fls := by
  unfold ims
  rw [List.getD_eq_getElem?_getD, List.getElem?_set]
  by_cases hi : i = ix O g
  · rw [if_pos hi, if_pos hi.symm, if_pos (hi ▸ h)]; rfl
  · rw [if_neg hi, if_neg (fun e => hi e.symm), List.getD_eq_getElem?_getD]
theorem getF_mem {O : List Fm} {i : Nat} (h : i < O.length) : O.getD i .fls ∈ O := by
  rw [List.getD_eq_getElem?_getD, List.getElem?_eq_getElem h]; exact List.getElem_mem h
theorem wto_img {s : Nat} {f g : Fm} {i : Nat} (h : g ∈ occs s f) :
    ims (outs s f []) ((outs s f []).set i (cst1 ((outs s f []).getD i .fls))) g = cst1 ((outs s f []).getD i .fls) ∨
    (ix (outs s f []) g ≠ i ∧ ims (outs s f []) ((outs s f []).set i (cst1 ((outs s f []).getD i .fls))) g ∈ occs s f ∧ enc (ims (outs s f []) ((outs s f []).set i (cst1 ((outs s f []).getD i .fls))) g) = enc g ∧
      ims (outs s f []) ((outs s f []).set i (cst1 ((outs s f []).getD i .fls))) g = (outs s f []).getD (ix (outs s f []) g) .fls) := by
  have hl := ix_outs h
  rw [ims_set hl]
  by_cases hi : ix (outs s f []) g = i
  · rw [if_pos hi]; exact .inl rfl
  · rw [if_neg hi]
    exact .inr ⟨hi, outs_mem (getF_mem hl), ix_at hl, rfl⟩
theorem wto_size (s : Nat) (f : Fm) (i : Nat) : (enc (wto s f i)).length + (occs s (wto s f i)).length ≤ (enc f).length + (occs s f).length := by
  refine repO_size fun g hg => ?_
  have h2 := (occs_len hg).1
  rcases wto_img (i := i) hg with h | ⟨-, h, he, -⟩
  · rw [h, cst1_occs]
    have := cst1_len ((outs s f []).getD i .fls)
    rw [List.length_nil]; omega
  · rw [he, occs_self h]; simp
theorem wto_ok {s : Nat} {f : Fm} (hf : f.ok = true) (hm : ∀ g ∈ occs s f, g.ok = true) (i : Nat) : (wto s f i).ok = true := by
  refine repO_ok hf fun g hg => ?_
  rcases wto_img (i := i) hg with h | ⟨-, h, he, -⟩
  · rw [h]; exact cst1_ok _
  · exact hm _ h
theorem occs_ok {s : Nat} {f : Fm} (hf : f.ok = true) : ∀ g ∈ occs s f, g.ok = true := by
  induction f with
  | var t => intro g hg; simp [occs] at hg
  | fls => intro g hg; simp [occs] at hg
  | bin k a b iha ihb =>
    intro g hg
    simp only [Fm.ok, Bool.and_eq_true] at hf
    rw [occs, List.mem_append] at hg
    exact hg.elim (iha hf.1 g) (ihb hf.2 g)
  | un k a ih =>
    intro g hg
    rw [occs] at hg
    split at hg
    · have : g = .un k a := by simpa using hg
      rw [this]; exact hf
    · simp at hg
theorem wto_gd {s : Nat} {f : Fm} (hf : gd f s = true) (i : Nat) : gd (wto s f i) s = true := by
  refine repO_gd hf fun g hg => ?_
  rcases wto_img (i := i) hg with h | ⟨-, h, he, -⟩
  · rw [h]; exact cst1_gd _ _
  · obtain ⟨k, a, e, -⟩ := occs_mem h
    rw [e]; rfl
theorem wto_outs {s : Nat} {f : Fm} {i : Nat} (hi : i < (outs s f []).length) : (outs s (wto s f i) []).length < (outs s f []).length := by
  have h := nodup_le ((outs s (wto s f i) []).map enc) (((outs s f []).eraseIdx i).map enc) (fold_nodup (occs s (wto s f i)) [] (by simp)) fun x hx => by
    obtain ⟨g, hg, rfl⟩ := List.mem_map.1 hx
    have hg2 := outs_mem hg
    unfold wto at hg2
    rw [occs_repO, List.mem_flatMap] at hg2
    obtain ⟨y, hy, hg3⟩ := hg2
    rcases wto_img (i := i) hy with h | ⟨hne, h, he, heq⟩
    · rw [h, cst1_occs] at hg3; cases hg3
    · rw [occs_self h] at hg3
      have hg4 := List.mem_singleton.1 hg3
      rw [hg4, heq]
      have hl := ix_outs hy
      refine List.mem_map.2 ⟨_, ?_, rfl⟩
      rw [List.mem_eraseIdx_iff_getElem?]
      exact ⟨ix (outs s f []) y, hne, by rw [List.getD_eq_getElem?_getD, List.getElem?_eq_getElem hl]; rfl⟩
  rw [List.length_map, List.length_map, List.length_eraseIdx, if_pos hi] at h
  omega
/-- a formula with a variable replaced -/
def Fm.sub : Fm → Nat → Fm → Fm
  | .var t, s, d => if t = s then d else .var t
  | .fls, _, _ => .fls
  | .bin k a b, s, d => .bin k (a.sub s d) (b.sub s d)
  | .un k a, s, d => .un k (a.sub s d)
theorem repL_enc (f : Fm) (s : Nat) (d : Fm) (hs : s ≤ 5) (hf : f.ok = true) : repL (enc f) s (enc d) = enc (f.sub s d) := by
  have hap : ∀ xs ys, repL (xs ++ ys) s (enc d) = repL xs s (enc d) ++ repL ys s (enc d) := fun xs ys => by simp [repL, subI]
  induction f with
  | var t =>
    have ht : t ≤ 5 := by simpa [Fm.ok] using hf
    simp only [enc, repL, subI, List.flatMap_cons, List.flatMap_nil, List.append_nil, if_pos, Fm.sub]
    rw [List.getD_eq_getElem?_getD, List.getElem?_set, idTo_length, Int.toNat_natCast]
    by_cases h : s = t
    · rw [if_pos h, if_pos h.symm, if_pos (by omega)]; rfl
    · rw [if_neg h, if_neg (fun e => h e.symm)]
      simp [idTo, List.getElem?_range (show t < 6 by omega), enc]
  | fls => rfl
  | bin k a b iha ihb =>
    simp only [Fm.ok, Bool.and_eq_true] at hf
    have e : enc (.bin k a b) = [(k.i, 0)] ++ (enc a ++ enc b) := rfl
    rw [e, hap, hap, iha hf.1, ihb hf.2]
    have : repL [(k.i, 0)] s (enc d) = [(k.i, 0)] := by cases k <;> rfl
    rw [this]; rfl
  | un k a ih =>
    have e : enc (.un k a) = [(k.i, 0)] ++ enc a := rfl
    rw [e, hap, ih hf]
    have : repL [(k.i, 0)] s (enc d) = [(k.i, 0)] := by cases k <;> rfl
    rw [this]; rfl
theorem sub_ok {f d : Fm} {s : Nat} (hf : f.ok = true) (hd : d.ok = true) : (f.sub s d).ok = true := by
  induction f with
  | var t => simp only [Fm.sub]; split; exact hd; exact hf
  | fls => rfl
  | bin k a b iha ihb =>
    simp only [Fm.ok, Bool.and_eq_true] at hf
    simp only [Fm.sub, Fm.ok, Bool.and_eq_true]
    exact ⟨iha hf.1, ihb hf.2⟩
  | un k a ih => exact ih hf
theorem sub_ge (f d : Fm) (s : Nat) : (enc f).length ≤ (enc (f.sub s d)).length := by
  induction f with
  | var t =>
    simp only [Fm.sub]
    split
    · exact enc_pos d
    · exact Nat.le_refl _
  | fls => exact Nat.le_refl _
  | bin k a b iha ihb => simp only [Fm.sub, enc, List.length_cons, List.length_append]; omega
  | un k a ih => simp only [Fm.sub, enc, List.length_cons]; omega
theorem sub_has {f : Fm} (d : Fm) {s : Nat} (h : f.occ s = true) : (enc d).length ≤ (enc (f.sub s d)).length := by
  induction f with
  | var t =>
    have : t = s := by simpa [Fm.occ] using h
    simp only [Fm.sub, if_pos this]; exact Nat.le_refl _
  | fls => cases h
  | bin k a b iha ihb =>
    simp only [Fm.occ, Bool.or_eq_true] at h
    simp only [Fm.sub, enc, List.length_cons, List.length_append]
    rcases h with h | h
    · have := iha h; omega
    · have := ihb h; omega
  | un k a ih =>
    have := ih h
    simp only [Fm.sub, enc, List.length_cons]; omega
theorem sub_le (f d : Fm) (s : Nat) : (enc (f.sub s d)).length ≤ (enc f).length * (enc d).length := by
  have hp := enc_pos d
  induction f with
  | var t =>
    simp only [Fm.sub]
    split
    · simp [enc]
    · simp only [enc, List.length_cons, List.length_nil]; omega
  | fls => simp only [Fm.sub, enc, List.length_cons, List.length_nil]; omega
  | bin k a b iha ihb => simp only [Fm.sub, enc, List.length_cons, List.length_append, Nat.add_mul, Nat.one_mul]; omega
  | un k a ih => simp only [Fm.sub, enc, List.length_cons, Nat.add_mul, Nat.one_mul]; omega
/-- the first k images; b builds the fixed point of the i-th formula; cap: an image of more than forty nodes ends it -/
def imsTo (s : Nat) (cap : Bool) (O : List Fm) (b : Nat → Option Fm) : Nat → Option (List Fm)
  | 0 => some []
  | k + 1 => match imsTo s cap O b k with
    | none => none
    | some l => match b k with
      | none => none
      | some d => if cap && decide (40 < (enc ((O.getD k .fls).sub s d)).length) then none else some (l ++ [(O.getD k .fls).sub s d])
/-- the built fixed point, of the reference -/
def bldS (s : Nat) : Nat → Fm → Option Fm
  | 0, f => some f
  | n + 1, f => if (outs s f []).length = 0 then some f else
    match imsTo s false (outs s f []) (fun i => bldS s n (wto s f i)) (outs s f []).length with
    | none => none
    | some I => if 40 < (enc (repO s (ims (outs s f []) I) f)).length then none else some (repO s (ims (outs s f []) I) f)
/-- the built fixed point, of the program -/
def bldI (s : Nat) : Nat → Fm → Option Fm
  | 0, f => if 40 < (enc f).length then none else some f
  | n + 1, f => if 40 < (enc f).length then none else if f.occ s = false then some f else
    match imsTo s true (outs s f []) (fun i => bldI s n (wto s f i)) (outs s f []).length with
    | none => none
    | some I => if 40 < (enc (repO s (ims (outs s f []) I) f)).length then none else some (repO s (ims (outs s f []) I) f)
/-- what is too long is not there -/
def capO : Option Fm → Option Fm
  | none => none
  | some d => if 40 < (enc d).length then none else some d
theorem imsTo_form {s : Nat} {cap : Bool} {O : List Fm} {b : Nat → Option Fm} : ∀ {k : Nat} {I : List Fm}, imsTo s cap O b k = some I → I.length = k ∧ ∀ i, i < k → ∃ d, b i = some d ∧ I.getD i .fls = (O.getD i .fls).sub s d
  | 0, I, h => by
    have : I = [] := by simpa [imsTo] using h.symm
    subst this
    exact ⟨rfl, fun i hi => by omega⟩
  | k + 1, I, h => by
    rw [imsTo] at h
    cases h1 : imsTo s cap O b k with
    | none => rw [h1] at h; cases h
    | some l =>
      cases h2 : b k with
      | none => rw [h1, h2] at h; cases h
      | some d =>
        rw [h1, h2] at h
        simp only at h
        split at h
        · cases h
        · obtain ⟨e1, e2⟩ := imsTo_form h1
          have : I = l ++ [(O.getD k .fls).sub s d] := by simpa using h.symm
          subst this
          refine ⟨by simp [e1], fun i hi => ?_⟩
          by_cases hik : i < k
          · obtain ⟨d', h3, h4⟩ := e2 i hik
            refine ⟨d', h3, ?_⟩
            rw [List.getD_eq_getElem?_getD, List.getElem?_append_left (by omega), ← List.getD_eq_getElem?_getD]
            exact h4
          · obtain rfl : i = k := by omega
            refine ⟨d, h2, ?_⟩
            rw [List.getD_eq_getElem?_getD, List.getElem?_append_right (by omega), e1, Nat.sub_self]
            rfl
/-- the images of the program, by those of the reference: none if one is too long -/
theorem imsTo_cap {s : Nat} {O : List Fm} {b b' : Nat → Option Fm} (hO : ∀ i, i < O.length → (O.getD i .fls).occ s = true) (hb : ∀ i, i < O.length → b' i = capO (b i)) :
    ∀ {k : Nat}, k ≤ O.length → (imsTo s true O b' k = none ∧ (imsTo s false O b k = none ∨ ∃ I i, imsTo s false O b k = some I ∧ i < k ∧ 40 < (enc (I.getD i .fls)).length)) ∨ (∃ I, imsTo s true O b' k = some I ∧ imsTo s false O b k = some I)
  | 0, _ => .inr ⟨[], rfl, rfl⟩
  | k + 1, hk => by
    rcases imsTo_cap hO hb (k := k) (by omega) with ⟨h1, h2⟩ | ⟨I, h1, h2⟩
    · refine .inl ⟨by rw [imsTo, h1], ?_⟩
      rcases h2 with h2 | ⟨I, i, h2, hi, h3⟩
      · exact .inl (by rw [imsTo, h2])
      · cases h4 : b k with
        | none => exact .inl (by rw [imsTo, h2, h4])
        | some d =>
          refine .inr ⟨I ++ [(O.getD k .fls).sub s d], i, by rw [imsTo, h2, h4]; rfl, by omega, ?_⟩
          have := (imsTo_form h2).1
          rw [List.getD_eq_getElem?_getD, List.getElem?_append_left (by omega), ← List.getD_eq_getElem?_getD]
          exact h3
    · have hlen := (imsTo_form h2).1
      have hb' := hb k (by omega)
      cases h4 : b k with
      | none =>
        rw [h4] at hb'
        exact .inl ⟨by rw [imsTo, h1, hb']; rfl, .inl (by rw [imsTo, h2, h4])⟩
      | some d =>
        rw [h4] at hb'
        have hI : imsTo s false O b (k + 1) = some (I ++ [(O.getD k .fls).sub s d]) := by rw [imsTo, h2, h4]; rfl
        have hat : (I ++ [(O.getD k .fls).sub s d]).getD k .fls = (O.getD k .fls).sub s d := by
          rw [List.getD_eq_getElem?_getD, List.getElem?_append_right (by omega), hlen, Nat.sub_self]; rfl
        by_cases hlong : 40 < (enc ((O.getD k .fls).sub s d)).length
        · refine .inl ⟨?_, .inr ⟨_, k, hI, by omega, by rw [hat]; exact hlong⟩⟩
          rw [imsTo, h1]
          cases hc : b' k with
          | none => rfl
          | some d' =>
            rw [hc] at hb'
            simp only [capO] at hb'
            split at hb'
            · cases hb'
            · obtain rfl : d' = d := by simpa using hb'
              simp only
              rw [if_pos (by simpa using hlong)]
        · refine .inr ⟨_, ?_, hI⟩
          have hd := sub_has d (hO k (by omega))
          rw [capO, if_neg (by omega)] at hb'
          rw [imsTo, h1, hb']
          simp only
          rw [if_neg (by simpa using hlong)]
theorem bld_cap (s : Nat) : ∀ (n : Nat) (f : Fm), gd f s = true → (outs s f []).length ≤ n → bldI s n f = capO (bldS s n f)
  | 0, f, hg, hn => rfl
  | n + 1, f, hg, hn => by
    rw [bldI, bldS]
    have hocc : f.occ s = false ↔ (outs s f []).length = 0 := by
      rw [List.length_eq_zero_iff, outs_nil]
      have := gd_occ hg
      constructor
      · intro h; exact occs_no h
      · intro h
        cases ho : f.occ s
        · rfl
        · exact absurd h (this.1 ho)
    by_cases h0 : (outs s f []).length = 0
    · rw [if_pos (hocc.2 h0), if_pos h0]
      rfl
    · rw [if_neg (fun h => h0 (hocc.1 h)), if_neg h0]
      have hO : ∀ i, i < (outs s f []).length → ((outs s f []).getD i .fls).occ s = true := fun i hi => by
        obtain ⟨k, a, e, ho⟩ := occs_mem (outs_mem (getF_mem hi))
        rw [e]; exact ho
      have hb : ∀ i, i < (outs s f []).length → bldI s n (wto s f i) = capO (bldS s n (wto s f i)) := fun i hi =>
        bld_cap s n (wto s f i) (wto_gd hg i) (by have := wto_outs hi; omega)
      have hge : ∀ {I : List Fm} {c : Bool} {b : Nat → Option Fm}, imsTo s c (outs s f []) b (outs s f []).length = some I → ∀ g ∈ occs s f, (enc g).length ≤ (enc (ims (outs s f []) I g)).length := fun h g hgm => by
        obtain ⟨e1, e2⟩ := imsTo_form h
        have hl := ix_outs hgm
        obtain ⟨d, -, e3⟩ := e2 _ hl
        unfold ims
        rw [e3, ← ix_at hl]
        exact sub_ge _ _ _
      rcases imsTo_cap hO hb (Nat.le_refl _) with ⟨h1, h2⟩ | ⟨I, h1, h2⟩
      · rw [h1]
        have : capO (match imsTo s false (outs s f []) (fun i => bldS s n (wto s f i)) (outs s f []).length with
            | none => none
            | some I => if 40 < (enc (repO s (ims (outs s f []) I) f)).length then none else some (repO s (ims (outs s f []) I) f)) = none := by
          rcases h2 with h2 | ⟨I, i, h2, hi, h3⟩
          · rw [h2]; rfl
          · rw [h2]
            simp only
            have hm := outs_mem (getF_mem hi)
            have hx : enc ((outs s f []).getD (ix (outs s f []) ((outs s f []).getD i .fls)) .fls) = enc ((outs s f []).getD i .fls) := ix_at (ix_outs hm)
            have hix : ix (outs s f []) ((outs s f []).getD i .fls) = i := ix_self (fold_nodup (occs s f) [] (by simp)) hi
            have := repO_has (r := ims (outs s f []) I) hm
            rw [show ims (outs s f []) I ((outs s f []).getD i .fls) = I.getD i .fls by unfold ims; rw [hix]] at this
            rw [if_pos (by omega)]; rfl
        rw [this]
        split <;> rfl
      · rw [h1, h2]
        simp only
        have := repO_ge (hge h2)
        by_cases hlong : 40 < (enc (repO s (ims (outs s f []) I) f)).length
        · rw [if_pos hlong]
          split <;> rfl
        · rw [if_neg hlong, if_neg (by omega)]
          simp only [capO]
          rw [if_neg hlong]
/- Over any program: worlds that differ in some blocks only, told by a set of blocks that may grow; headers that read in the first world. -/
/-- w' is w but for the blocks of T, which lie from B on, and new ones -/
structure Fr (B : Nat) (T : Nat → Prop) (w w' : World) : Prop where
  os : w'.os = w.os
  tape : w'.tape = w.tape
  output : w'.output = w.output
  size : w.heap.size ≤ w'.heap.size
  block : ∀ k, k < w.heap.size → (k < B ∨ ¬ T k) → w'.heap[k]? = w.heap[k]?
/-- T' may be what T has become from w on -/
def Tgr (T : Nat → Prop) (w : World) (T' : Nat → Prop) : Prop := ∀ k, T' k → T k ∨ w.heap.size ≤ k
theorem Tgr.refl (T : Nat → Prop) (w : World) : Tgr T w T := fun k h => .inl h
theorem Tgr.trans {T T1 T2 : Nat → Prop} {w w1 : World} (h : Tgr T w T1) (hs : w.heap.size ≤ w1.heap.size) (k : Tgr T1 w1 T2) : Tgr T w T2 := fun i hi => (k i hi).elim (h i) fun hh => .inr (Nat.le_trans hs hh)
section
variable {B : Nat} {T T1 : Nat → Prop} {w w1 w2 : World}
theorem Fr.refl (B : Nat) (T : Nat → Prop) (w : World) : Fr B T w w := ⟨rfl, rfl, rfl, Nat.le_refl _, fun _ _ _ => rfl⟩
theorem Fr.trans (h : Fr B T w w1) (hT : Tgr T w T1) (k : Fr B T1 w1 w2) : Fr B T w w2 :=
  ⟨k.os.trans h.os, k.tape.trans h.tape, k.output.trans h.output, Nat.le_trans h.size k.size, fun i hi hn =>
    (k.block i (Nat.lt_of_lt_of_le hi h.size) (hn.imp id fun hn hi1 => (hT i hi1).elim hn fun hh => by omega)).trans (h.block i hi hn)⟩
theorem Fr.of_below (h : Below w.heap.size w w1) : Fr B T w w1 := ⟨h.os, h.tape, h.output, h.size, fun k hk _ => h.block k hk⟩
theorem Fr.of_grown {row : Option Nat} (h : w.grownBy w1 row) (hr : ∀ k, row = some k → B ≤ k ∧ T k) : Fr B T w w1 :=
  ⟨h.os, h.tape, h.output, h.size, fun k hk hn => h.block k hk fun e => by have := hr k e.symm; exact hn.elim (by omega) fun hn => hn this.2⟩
theorem Fr.set_ {p : Addr} (u : Value) (hp : B ≤ p.block ∧ T p.block) : Fr B T w (w.setCell p u) :=
  ⟨rfl, rfl, rfl, by simp [World.setCell], fun k hk hn => Below.heap_setCell w p u k fun e => by subst e; exact hn.elim (by omega) fun hn => hn hp.2⟩
theorem Fr.below {b : Nat} (h : Fr B T w w1) (hb : b ≤ B) (hs : b ≤ w.heap.size) : Below b w w1 := ⟨h.os, h.tape, h.output, h.size, fun k hk => h.block k (by omega) (.inl (by omega))⟩
theorem Fr.thenBelow {w0 : World} {b : Nat} (h0 : Below b w0 w) (h : Fr B T w w1) (hb : b ≤ B) (hs : b ≤ w.heap.size) : Below b w0 w1 := h0.trans (h.below hb hs)
/-- where nothing may change, all of the world stands -/
theorem Fr.all (h : Fr B T w w1) (hT : ∀ k, ¬ T k) : Below w.heap.size w w1 := ⟨h.os, h.tape, h.output, h.size, fun k hk => h.block k hk (.inr (hT k))⟩
theorem Fr.monoT (h : Fr B T w w1) (hT : ∀ k, T k → T1 k) : Fr B T1 w w1 := ⟨h.os, h.tape, h.output, h.size, fun k hk hn => h.block k hk (hn.imp id fun hn hi => hn (hT k hi))⟩
theorem Ow.fr {α : Type} {K : Cod α} {e : TypeId} {b : Nat} {v : Value} {xs : List α} (h : Ow K e b w v xs) (hf : Fr B T w w1) (hn : ∀ k, v.ownBlock = some k → ¬ T k) : Ow K e b w1 v xs := by
  refine ⟨h.1, h.2.1, ?_⟩
  rcases h.2.2 with h2 | ⟨g, cap, cur, hv, hB, hg, r⟩
  · exact .inl h2
  · exact .inr ⟨g, cap, cur, hv, hB, (hf.block g (Array.getElem?_eq_some_iff.1 hg).1 (.inr (hn g (by rw [hv]; rfl)))).trans hg, r⟩
theorem Blk.fr {g : Nat} {t : TypeId} {cs : Array Value} (h : Blk w g t cs) (hf : Fr B T w w1) (hn : ¬ T g) : Blk w1 g t cs := (hf.block g h.lt (.inr hn)).trans h
theorem Sl.fr0 {α : Type} {K : Cod α} {w0 : World} {v : Value} {xs : List α} (h : Sl K w0 v xs) (h0 : Below w0.heap.size w0 w) : Sl K w v xs := h.below h0
end
/-- the headers hs read in w0 as the formulas O -/
def Hs (w0 : World) (hs : List Hd) (O : List Fm) : Prop := hs.length = O.length ∧ ∀ i (a : i < hs.length) (b : i < O.length), Sl cN w0 hs[i].val (enc O[i])
section
variable {w0 w : World} {hs : List Hd} {O : List Fm}
theorem Hs.nil : Hs w0 [] [] := ⟨rfl, fun i a => by simp at a⟩
theorem Hs.snoc (h : Hs w0 hs O) {x : Hd} {g : Fm} (hx : Sl cN w0 x.val (enc g)) : Hs w0 (hs ++ [x]) (O ++ [g]) := by
  obtain ⟨h1, h2⟩ := h
  refine ⟨by simp [h1], fun i a b => ?_⟩
  by_cases hi : i < hs.length
  · rw [List.getElem_append_left hi, List.getElem_append_left (by omega)]
    exact h2 i hi (by omega)
  · have e : i = hs.length := by simp at a; omega
    subst e
    rw [List.getElem_append_right (Nat.le_refl _), List.getElem_append_right (by omega)]
    simpa using hx
theorem Hs.below (h : Hs w0 hs O) (hb : Below w0.heap.size w0 w) : Hs w hs O := ⟨h.1, fun i a b => (h.2 i a b).below hb⟩
theorem Hs.sl2 {v : Value} (h : Hs w hs O) (hv : Sl cH w v hs) : Sl2 cN w v (O.map enc) := ⟨hs, hv, by simp [h.1], fun i a b => by simpa using h.2 i a (by simpa using b)⟩
theorem Sl2.toHs {v : Value} (h : Sl2 cN w v (O.map enc)) : ∃ hs, Sl cH w v hs ∧ Hs w hs O := by
  obtain ⟨hs, h1, h2, h3⟩ := h
  exact ⟨hs, h1, by simpa using h2, fun i a b => by have := h3 i a (by simpa using b); rwa [List.getElem_map] at this⟩
theorem Hs.set_ (h : Hs w0 hs O) {i : Nat} {x : Hd} {g : Fm} (hx : Sl cN w0 x.val (enc g)) : Hs w0 (hs.set i x) (O.set i g) := by
  obtain ⟨h1, h2⟩ := h
  refine ⟨by simp [h1], fun j a b => ?_⟩
  rw [List.getElem_set, List.getElem_set]
  by_cases hij : i = j
  · rw [if_pos hij, if_pos hij]; exact hx
  · rw [if_neg hij, if_neg hij]; exact h2 j (by simpa using a) (by simpa using b)
end
theorem isin_range (O : List Fm) (g : Fm) : (List.range O.length).any (fun i => decide (enc (O.getD i .fls) = enc g)) = isin O g := any_range O .fls fun h => decide (enc h = enc g)
theorem ix_fidx {O : List Fm} {g : Fm} (h : ix O g < O.length) : fidx (fun i => decide (enc (O.getD i .fls) = enc g)) O.length = (ix O g : Nat) := by
  refine fidx_some h (fun i hi => ?_) (by rw [ix_at h]; exact decide_eq_true rfl)
  have := List.not_of_lt_findIdx (show i < O.findIdx (fun h => decide (enc h = enc g)) from hi)
  rw [List.getD_eq_getElem?_getD, List.getElem?_eq_getElem (by omega)]
  simpa using this
/- Contracts of chapter 33: copies and comparisons of formulas, both sides. -/
theorem slices_Clone_node (v : Value) (xs : List Nd) (w : World) (h : Sl cN w v xs) (hl : xs.length ≤ 1048576) :
    Calls Tryz.prog 71 #[v] w fun e w' => ∃ u, e = .returned u ∧ Ow cN 75 w.heap.size w' u xs ∧ Below w.heap.size w w' := by
  obtain ⟨A, c, rfl⟩ := h.opn
  by_cases hA : A = none
  · subst hA
    obtain rfl := h.none_nil
    have hq := fun W : World => Lib.run_eql_slice_nil (P := Tryz.prog) W 44 75 none 0 c 0 0 Tryz.underlying44
    go_enter Tryz.func71, Tryz.ntmps71
    go_wp2_with (at_builtin; refine stopHere ?_)
    go_ret
    exact ⟨_, rfl, Ow.nil _ _, Below.refl _ _⟩
  · obtain ⟨ad, rfl⟩ := Option.ne_none_iff_exists'.1 hA
    clear hA
    have hq := fun W : World => Lib.run_eql_slice_nil (P := Tryz.prog) W 44 75 (some ad) xs.length c 0 0 Tryz.underlying44
    go_enter Tryz.func71, Tryz.ntmps71
    go_wp2_with (at_builtin; refine stopHere ?_)
    refine goHere ?_
    refine ap_sl (K := cN) _ ty_node rfl _ _ rfl rfl rfl (B := w.heap.size) (xs := []) (news := xs) (Ow.lit [] rfl rfl (Nat.le_refl _)) (h.alloc _) (by simp <;> omega) (by simp) ?_
    intro v1 w1 ho hg hb hat
    have hb' : Below w.heap.size w w1 := ((Below.refl _ _).alloc (Nat.le_refl _) _).trans hb
    have O := Lib.hid ho; clear ho hg hb hat
    go_wp2
    go_ret
    exact ⟨_, rfl, O.out, hb'⟩
theorem impl_clone (v : Value) (xs : List Nd) (w : World) (h : Sl cN w v xs) (hl : xs.length ≤ 1048576) :
    Calls Tryz.prog 51 #[v] w fun e w' => ∃ u, e = .returned u ∧ Ow cN 75 w.heap.size w' u xs ∧ Below w.heap.size w w' := by
  have HC := Lib.hid (slices_Clone_node v xs w h hl)
  clear h
  go_enter Tryz.func51, Tryz.ntmps51
  go_wp2_with fail
  refine HC.out.mono ?_
  rintro e w1 ⟨u, rfl, ho, hb⟩
  have O := Lib.hid ho; clear ho
  go_wp2
  go_ret
  exact ⟨_, rfl, O.out, hb⟩
theorem slices_Equal_node (v u : Value) (xs ys : List Nd) (w : World) (hx : Sl cN w v xs) (hy : Sl cN w u ys) (hl : xs.length ≤ 1073741824) (hl2 : ys.length ≤ 1073741824) :
    Calls Tryz.prog 98 #[v, u] w fun e w' => e = .returned (.bool (decide (xs = ys))) ∧ Below w.heap.size w w' := by
  obtain ⟨A, c, rfl⟩ := hx.opn
  obtain ⟨B, d, rfl⟩ := hy.opn
  by_cases hne : ys.length = xs.length
  · rw [hne] at hy ⊢
    have HL := Lib.hid hne
    go_enter Tryz.func98, Tryz.ntmps98
    go_wp2
    go_loopw [13] (fun i wr => ∃ j : Nat, j ≤ xs.length ∧ i = .int .i64 j ∧ (∀ k (h1 : k < xs.length) (h2 : k < ys.length), k < j → xs[k] = ys[k]) ∧ Below w.heap.size w wr) (fun i _ => xs.length - (intOf i).toNat)
    case atStart => exact ⟨0, Nat.zero_le _, rfl, fun k _ _ h => by omega, Below.refl _ _⟩
    case round =>
      obtain ⟨j, hj, rfl, hh, hb⟩ := hrel
      have Hh := Lib.hid hh; clear hh
      have HB := Lib.hid hb
      by_cases hlt : j < xs.length
      · have hlt2 : j < ys.length := by rw [HL.out]; exact hlt
        obtain ⟨b, o, rfl, hbl, hc0, hc1⟩ := (hx.below hb).atN hlt
        obtain ⟨b2, o2, rfl, hbl2, hd0, hd1⟩ := (hy.below hb).atN hlt2
        by_cases he : xs[j] = ys[j]
        · have HS : Hid (∀ k (h1 : k < xs.length) (h2 : k < ys.length), k < j + 1 → xs[k] = ys[k]) := Lib.hid fun k h1 h2 h3 => by
            rcases Nat.lt_or_ge k j with h | h
            · exact Hh.out k h1 h2 h
            · obtain rfl : k = j := by omega
              exact he
          have hnq := run_neq_node xs[j].1 xs[j].2 ys[j].1 ys[j].2
          have hd : (!(xs[j].1 == ys[j].1 && xs[j].2 == ys[j].2)) = false := by rw [he]; simp
          have hng := run_eqg_node
          rw [hd] at hnq
          generalize xs[j] = x at *
          generalize ys[j] = y at *
          clear hb hd he
          go_wp2
          go_quiet (fail)
          go_wp2
          go_roundw
          case rel => exact ⟨j + 1, by omega, by go_num, HS.out, below_drewN HB.out _⟩
          case measure => simp [intOf]; omega
        · have HE : Hid (decide (xs = ys) = false) := Lib.hid (decide_eq_false fun h => he (by subst h; rfl))
          have hnq := run_neq_node xs[j].1 xs[j].2 ys[j].1 ys[j].2
          have hd : (!(xs[j].1 == ys[j].1 && xs[j].2 == ys[j].2)) = true := by
            rw [Bool.not_eq_true', Bool.eq_false_iff]
            intro h
            simp only [Bool.and_eq_true, beq_iff_eq] at h
            exact he (Prod.ext h.1 h.2)
          have hng := run_eqg_node
          rw [hd] at hnq
          generalize xs[j] = x at *
          generalize ys[j] = y at *
          clear hb hd he
          go_wp2
          go_quiet (fail)
          go_wp2
          go_ret
          exact ⟨by rw [HE.out]; rfl, below_drewN HB.out _⟩
      · have HE : Hid (decide (xs = ys) = true) := Lib.hid (decide_eq_true (List.ext_getElem HL.out.symm fun k h1 h2 => Hh.out k h1 h2 (by omega)))
        clear hb
        go_wp2
        go_ret
        exact ⟨by rw [HE.out]; rfl, HB.out⟩
  · have HE : Hid (decide (xs = ys) = false) := Lib.hid (decide_eq_false fun h => hne (by rw [h]))
    have hn2 : ¬ ((xs.length : Int) = (ys.length : Int)) := by omega
    have hn3 : ((xs.length : Int) != (ys.length : Int)) = true := by simpa using hn2
    clear hx hy
    go_enter Tryz.func98, Tryz.ntmps98
    go_wp2
    go_ret
    exact ⟨by rw [HE.out]; rfl, Below.refl _ _⟩
theorem impl_same (v u : Value) (xs ys : List Nd) (w : World) (hx : Sl cN w v xs) (hy : Sl cN w u ys) (hl : xs.length ≤ 1073741824) (hl2 : ys.length ≤ 1073741824) :
    Calls Tryz.prog 85 #[v, u] w fun e w' => e = .returned (.bool (decide (xs = ys))) ∧ Below w.heap.size w w' := by
  have HC := Lib.hid (slices_Equal_node v u xs ys w hx hy hl hl2)
  clear hx hy
  go_enter Tryz.func85, Tryz.ntmps85
  go_wp2_with fail
  refine HC.out.mono ?_
  rintro e w1 ⟨rfl, hb⟩
  go_wp2
  go_ret
  exact ⟨rfl, hb⟩
theorem spec_l02Equal (v u : Value) (xs ys : List Nd) (w : World) (hx : Sl cN w v xs) (hy : Sl cN w u ys) (hl : xs.length ≤ 1073741824) (hl2 : ys.length ≤ 1073741824) :
    Calls Tryz.prog 75 #[v, u] w fun e w' => e = .returned (.bool (decide (xs = ys))) ∧ Below w.heap.size w w' := by
  obtain ⟨A, c, rfl⟩ := hx.opn
  obtain ⟨B, d, rfl⟩ := hy.opn
  by_cases hne : ys.length = xs.length
  · rw [hne] at hy ⊢
    have HL := Lib.hid hne
    go_enter Tryz.func75, Tryz.ntmps75
    go_wp2
    go_loopw [5] (fun i wr => ∃ j : Nat, j ≤ xs.length ∧ i = .int .i64 j ∧ (∀ k (h1 : k < xs.length) (h2 : k < ys.length), k < j → xs[k] = ys[k]) ∧ Below w.heap.size w wr) (fun i _ => xs.length - (intOf i).toNat)
    case atStart => exact ⟨0, Nat.zero_le _, rfl, fun k _ _ h => by omega, Below.refl _ _⟩
    case round =>
      obtain ⟨j, hj, rfl, hh, hb⟩ := hrel
      have Hh := Lib.hid hh; clear hh
      have HB := Lib.hid hb
      by_cases hlt : j < xs.length
      · have hlt2 : j < ys.length := by rw [HL.out]; exact hlt
        obtain ⟨b, o, rfl, hbl, hc0, hc1⟩ := (hx.below hb).atN hlt
        obtain ⟨b2, o2, rfl, hbl2, hd0, hd1⟩ := (hy.below hb).atN hlt2
        by_cases he : xs[j] = ys[j]
        · have HS : Hid (∀ k (h1 : k < xs.length) (h2 : k < ys.length), k < j + 1 → xs[k] = ys[k]) := Lib.hid fun k h1 h2 h3 => by
            rcases Nat.lt_or_ge k j with h | h
            · exact Hh.out k h1 h2 h
            · obtain rfl : k = j := by omega
              exact he
          have hnq := run_neq_node xs[j].1 xs[j].2 ys[j].1 ys[j].2
          have hd : (!(xs[j].1 == ys[j].1 && xs[j].2 == ys[j].2)) = false := by rw [he]; simp
          have hng := run_eqg_node
          rw [hd] at hnq
          generalize xs[j] = x at *
          generalize ys[j] = y at *
          clear hb hd he
          go_wp2
          go_quiet (fail)
          go_wp2
          go_roundw
          case rel => exact ⟨j + 1, by omega, by go_num, HS.out, below_drewN HB.out _⟩
          case measure => simp [intOf]; omega
        · have HE : Hid (decide (xs = ys) = false) := Lib.hid (decide_eq_false fun h => he (by subst h; rfl))
          have hnq := run_neq_node xs[j].1 xs[j].2 ys[j].1 ys[j].2
          have hd : (!(xs[j].1 == ys[j].1 && xs[j].2 == ys[j].2)) = true := by
            rw [Bool.not_eq_true', Bool.eq_false_iff]
            intro h
            simp only [Bool.and_eq_true, beq_iff_eq] at h
            exact he (Prod.ext h.1 h.2)
          have hng := run_eqg_node
          rw [hd] at hnq
          generalize xs[j] = x at *
          generalize ys[j] = y at *
          clear hb hd he
          go_wp2
          go_quiet (fail)
          go_wp2
          go_ret
          exact ⟨by rw [HE.out]; rfl, below_drewN HB.out _⟩
      · have HE : Hid (decide (xs = ys) = true) := Lib.hid (decide_eq_true (List.ext_getElem HL.out.symm fun k h1 h2 => Hh.out k h1 h2 (by omega)))
        clear hb
        go_wp2
        go_ret
        exact ⟨by rw [HE.out]; rfl, HB.out⟩
  · have HE : Hid (decide (xs = ys) = false) := Lib.hid (decide_eq_false fun h => hne (by rw [h]))
    have hn2 : ¬ ((xs.length : Int) = (ys.length : Int)) := by omega
    have hn3 : ((xs.length : Int) != (ys.length : Int)) = true := by simpa using hn2
    clear hx hy
    go_enter Tryz.func75, Tryz.ntmps75
    go_wp2
    go_ret
    exact ⟨by rw [HE.out]; rfl, Below.refl _ _⟩
/- Contracts of chapter 33, of the reference: outer parts, replaced outer parts. -/
theorem left_g (v : Value) (n : Nd) (f : Fm) (rest : List Nd) (w : World) (h : Sl cN w v (n :: (enc f ++ rest))) (hl : (n :: (enc f ++ rest)).length ≤ 1048576) :
    Calls Tryz.prog 137 #[v] w fun e w' => ∃ u, e = .returned u ∧ (∀ W0, Sl cN W0 v (n :: (enc f ++ rest)) → Sl cN W0 u (enc f)) ∧ w = w' := by
  obtain ⟨A, c, rfl⟩ := h.opn
  obtain ⟨-, hc, hm⟩ := h.cap
  have hpos := enc_pos f
  have hlen : (n :: (enc f ++ rest)).length = 1 + (enc f).length + rest.length := by simp; omega
  have h2 := fun A' n' hn hA W0 (h0 : Sl cN W0 (.slice A (n :: (enc f ++ rest)).length c) (n :: (enc f ++ rest))) => h0.cutAt (A' := A') (n' := n') (i := 1) (j := 1 + (enc f).length) (c' := c - 1) (by omega) (by omega) hn hA (by omega) (by omega)
  rw [Nat.add_sub_cancel_left, take_enc] at h2
  have H2 := Lib.hid h2; clear h2
  have h1 := spec_l02Part _ _ 1 w h (by omega) (by omega)
  rw [show ((1 : Nat) : Int) = 1 from rfl, pe_first n f rest] at h1
  have H1 := Lib.hid h1; clear h1
  clear h
  generalize (n :: (enc f ++ rest)).length = L at *
  generalize hm' : (enc f).length = m at *
  have HM := Lib.hid hm'; clear hm'
  have HL := Lib.hid hlen
  have hL : 1 + m ≤ L := by omega
  clear hlen
  go_enter Tryz.func137, Tryz.ntmps137
  go_wp2_with fail
  refine H1.out.mono ?_
  rintro e w1 ⟨rfl, rfl⟩
  go_wp2
  go_ret
  exact ⟨_, rfl, H2.out _ _ (by omega) (fun b o hA => by subst hA; rfl), rfl⟩
theorem right_g (v : Value) (n : Nd) (f g : Fm) (w : World) (h : Sl cN w v (n :: (enc f ++ enc g))) (hl : (n :: (enc f ++ enc g)).length ≤ 1048576) :
    Calls Tryz.prog 138 #[v] w fun e w' => ∃ u, e = .returned u ∧ (∀ W0, Sl cN W0 v (n :: (enc f ++ enc g)) → Sl cN W0 u (enc g)) ∧ w = w' := by
  obtain ⟨A, c, rfl⟩ := h.opn
  obtain ⟨-, hc, hm⟩ := h.cap
  have hpos := enc_pos f
  have hpos2 := enc_pos g
  have hlen : (n :: (enc f ++ enc g)).length = 1 + (enc f).length + (enc g).length := by simp; omega
  have h2 := fun A' n' hn hA W0 (h0 : Sl cN W0 (.slice A (n :: (enc f ++ enc g)).length c) (n :: (enc f ++ enc g))) => h0.cutAt (A' := A') (n' := n') (i := 1 + (enc f).length) (j := 1 + (enc f).length + (enc g).length) (c' := c - (1 + (enc f).length)) (by omega) (by omega) hn hA (by omega) (by omega)
  have e2 := take_enc2 n f g []
  rw [List.append_nil] at e2
  rw [Nat.add_sub_cancel_left, Nat.add_comm 1 (enc f).length, e2] at h2
  have H2 := Lib.hid h2; clear h2 e2
  have h1 := spec_l02Part _ _ 1 w h (by omega) (by omega)
  rw [show ((1 : Nat) : Int) = 1 from rfl, pe_first n f (enc g), Nat.add_comm 1] at h1
  have H1 := Lib.hid h1; clear h1
  clear h
  generalize (n :: (enc f ++ enc g)).length = L at *
  generalize hm' : (enc f).length = m at *
  generalize hk' : (enc g).length = k at *
  have HM := Lib.hid hm'; clear hm'
  have HK := Lib.hid hk'; clear hk'
  have HL := Lib.hid hlen
  have hL : 1 + m + k ≤ L := by omega
  have hne : ¬ c = m + 1 := by omega
  clear hlen
  go_enter Tryz.func138, Tryz.ntmps138
  go_wp2_with fail
  refine H1.out.mono ?_
  rintro e w1 ⟨rfl, rfl⟩
  go_wp2
  go_ret
  exact ⟨_, rfl, H2.out _ _ (by have := HL.out; omega) (fun b o hA => by subst hA; rfl), rfl⟩
end Go.Proofs.YtcikenffeekkeaaGreatDoor
