/- Joined of several texts: M33o, Fr, 33p, 33c. -/
import Derived.Test.YtgcoohlakcncbaaGreatB7
import Derived.Test.YtgcoohlakcncbaaGreatN34
import Derived.Test.YtgcoohlakcncbaaGreatLB
import Derived.Test.YtgcoohlakcncbaaGreatSch
namespace Go.Proofs.YtgcoohlakcncbaaGreat
open Go.RowKit
set_option linter.unusedVariables false
set_option linter.unusedSimpArgs false
/- Plain words of chapter 33: the outer parts of a formula, formulas with replaced outer parts, the built fixed points. No program in sight. -/
def Fm.occ : Fm → Nat → Bool
  | .var t, s => t == s
  | .fls, _ => false
  | .bin _ a b, s => a.occ s || b.occ s
  | .un _ a, s => a.occ s
theorem occ_append (xs ys : List Nd) (t : Int) : Go.Proofs.YtgcoohlakcncbaaGreat.occ (xs ++ ys) t = (Go.Proofs.YtgcoohlakcncbaaGreat.occ xs t || Go.Proofs.YtgcoohlakcncbaaGreat.occ ys t) := by simp [Go.Proofs.YtgcoohlakcncbaaGreat.occ]
theorem occ_enc (f : Fm) (s : Nat) : Go.Proofs.YtgcoohlakcncbaaGreat.occ (enc f) (s : Int) = f.occ s := by
  induction f with
  | var t =>
    simp only [enc, Go.Proofs.YtgcoohlakcncbaaGreat.occ, Fm.occ, List.any_cons, List.any_nil, Bool.or_false]
    by_cases h : t = s
    · subst h; simp
    · have h2 : ((t : Int) == (s : Int)) = false := by rw [beq_eq_false_iff_ne]; omega
      have h3 : (t == s) = false := by rw [beq_eq_false_iff_ne]; exact h
      rw [h2, h3]; rfl
  | fls => rfl
  | bin k a b iha ihb =>
    have e : enc (.bin k a b) = [(k.i, 0)] ++ (enc a ++ enc b) := rfl
    rw [e, occ_append, occ_append, iha, ihb]
    have : Go.Proofs.YtgcoohlakcncbaaGreat.occ [(k.i, 0)] (s : Int) = false := by cases k <;> rfl
    rw [this]; rfl
  | un k a ih =>
    have e : enc (.un k a) = [(k.i, 0)] ++ enc a := rfl
    rw [e, occ_append, ih]
    have : Go.Proofs.YtgcoohlakcncbaaGreat.occ [(k.i, 0)] (s : Int) = false := by cases k <;> rfl
    rw [this]; rfl
/-- is a formula among those of a list? -/
def isin (l : List Fm) (g : Fm) : Bool := l.any fun h => decide (enc h = enc g)
/-- a list with a formula put behind it, if it is not there -/
def ins (l : List Fm) (g : Fm) : List Fm := if isin l g then l else l ++ [g]
/-- the outer parts, as they come -/
def occs (s : Nat) : Fm → List Fm
  | .un k a => if a.occ s then [.un k a] else []
  | .bin _ a b => occs s a ++ occs s b
  | _ => []
/-- the outer parts, each once, put behind a list -/
def outs (s : Nat) (f : Fm) (l : List Fm) : List Fm := (occs s f).foldl ins l
theorem outs_bin (s : Nat) (k : BK) (a b : Fm) (l : List Fm) : outs s (.bin k a b) l = outs s b (outs s a l) := by unfold outs; rw [occs, List.foldl_append]
theorem outs_un (s : Nat) (k : UK) (a : Fm) (l : List Fm) (h : a.occ s = true) : outs s (.un k a) l = if isin l (.un k a) then l else l ++ [.un k a] := by unfold outs; rw [occs, if_pos h]; rfl
theorem occs_no {s : Nat} {f : Fm} (h : f.occ s = false) : occs s f = [] := by
  induction f with
  | var t => rfl
  | fls => rfl
  | bin k a b iha ihb =>
    simp only [Fm.occ, Bool.or_eq_false_iff] at h
    rw [occs, iha h.1, ihb h.2]; rfl
  | un k a ih => rw [occs, if_neg (by rw [show a.occ s = false from h]; decide)]
theorem outs_no {s : Nat} {f : Fm} (h : f.occ s = false) (l : List Fm) : outs s f l = l := by unfold outs; rw [occs_no h]; rfl
theorem occs_mem {s : Nat} {f g : Fm} (h : g ∈ occs s f) : ∃ k a, g = .un k a ∧ a.occ s = true := by
  induction f with
  | var t => simp [occs] at h
  | fls => simp [occs] at h
  | bin k a b iha ihb =>
    rw [occs, List.mem_append] at h
    exact h.elim iha ihb
  | un k a ih =>
    rw [occs] at h
    split at h
    · rename_i ho
      exact ⟨k, a, by simpa using h, ho⟩
    · simp at h
theorem occs_self {s : Nat} {g f : Fm} (h : g ∈ occs s f) : occs s g = [g] := by
  obtain ⟨k, a, rfl, ho⟩ := occs_mem h
  rw [occs, if_pos ho]
theorem occs_len {s : Nat} {f g : Fm} (h : g ∈ occs s f) : 2 ≤ (enc g).length ∧ (enc g).length ≤ (enc f).length := by
  refine ⟨?_, ?_⟩
  · obtain ⟨k, a, rfl, -⟩ := occs_mem h
    have := enc_pos a
    simp [enc]; omega
  · induction f with
    | var t => simp [occs] at h
    | fls => simp [occs] at h
    | bin k a b iha ihb =>
      rw [occs, List.mem_append] at h
      simp only [enc, List.length_cons, List.length_append]
      rcases h with h | h
      · have := iha h; omega
      · have := ihb h; omega
    | un k a ih =>
      rw [occs] at h
      split at h
      · have : g = .un k a := by simpa using h
        rw [this]; exact Nat.le_refl _
      · simp at h
/-- a formula with its outer parts replaced -/
def repO (s : Nat) (r : Fm → Fm) : Fm → Fm
  | .un k a => if a.occ s then r (.un k a) else .un k a
  | .bin k a b => .bin k (repO s r a) (repO s r b)
  | f => f
theorem repO_no {s : Nat} {f : Fm} (r : Fm → Fm) (h : f.occ s = false) : repO s r f = f := by
  induction f with
  | var t => rfl
  | fls => rfl
  | bin k a b iha ihb =>
    simp only [Fm.occ, Bool.or_eq_false_iff] at h
    rw [repO, iha h.1, ihb h.2]
  | un k a ih => rw [repO, if_neg (by rw [show a.occ s = false from h]; decide)]
theorem repO_congr {s : Nat} {f : Fm} {r r' : Fm → Fm} (h : ∀ g ∈ occs s f, r g = r' g) : repO s r f = repO s r' f := by
  induction f with
  | var t => rfl
  | fls => rfl
  | bin k a b iha ihb =>
    rw [repO, repO, iha fun g hg => h g (by rw [occs, List.mem_append]; exact .inl hg), ihb fun g hg => h g (by rw [occs, List.mem_append]; exact .inr hg)]
  | un k a ih =>
    rw [repO, repO]
    split
    · rename_i ho
      exact h _ (by rw [occs, if_pos ho]; simp)
    · rfl
theorem occs_repO (s : Nat) (r : Fm → Fm) (f : Fm) : occs s (repO s r f) = (occs s f).flatMap fun g => occs s (r g) := by
  induction f with
  | var t => rfl
  | fls => rfl
  | bin k a b iha ihb => rw [repO, occs, occs, iha, ihb, List.flatMap_append]
  | un k a ih =>
    rw [repO, occs]
    split
    · rw [List.flatMap_cons, List.flatMap_nil, List.append_nil]
    · rename_i ho
      rw [occs, if_neg ho]; rfl
theorem repO_size {s : Nat} {r : Fm → Fm} {f : Fm} (h : ∀ g ∈ occs s f, (enc (r g)).length + (occs s (r g)).length ≤ (enc g).length + 1) :
    (enc (repO s r f)).length + (occs s (repO s r f)).length ≤ (enc f).length + (occs s f).length := by
  induction f with
  | var t => exact Nat.le_refl _
  | fls => exact Nat.le_refl _
  | bin k a b iha ihb =>
    have h1 := iha fun g hg => h g (by rw [occs, List.mem_append]; exact .inl hg)
    have h2 := ihb fun g hg => h g (by rw [occs, List.mem_append]; exact .inr hg)
    simp only [repO, enc, occs, List.length_cons, List.length_append] at *
    omega
  | un k a ih =>
    by_cases ho : a.occ s = true
    · have := h (.un k a) (by rw [occs, if_pos ho]; simp)
      rw [repO, if_pos ho]
      rw [show occs s (.un k a) = [.un k a] by rw [occs, if_pos ho]]
      simpa using this
    · rw [repO, if_neg ho]; exact Nat.le_refl _
theorem repO_ge {s : Nat} {r : Fm → Fm} {f : Fm} (h : ∀ g ∈ occs s f, (enc g).length ≤ (enc (r g)).length) : (enc f).length ≤ (enc (repO s r f)).length := by
  induction f with
  | var t => exact Nat.le_refl _
  | fls => exact Nat.le_refl _
  | bin k a b iha ihb =>
    have h1 := iha fun g hg => h g (by rw [occs, List.mem_append]; exact .inl hg)
    have h2 := ihb fun g hg => h g (by rw [occs, List.mem_append]; exact .inr hg)
    simp only [repO, enc, List.length_cons, List.length_append] at *
    omega
  | un k a ih =>
    by_cases ho : a.occ s = true
    · have := h (.un k a) (by rw [occs, if_pos ho]; simp)
      rw [repO, if_pos ho]; exact this
    · rw [repO, if_neg ho]; exact Nat.le_refl _
theorem repO_has {s : Nat} {r : Fm → Fm} {f g : Fm} (h : g ∈ occs s f) : (enc (r g)).length ≤ (enc (repO s r f)).length := by
  induction f with
  | var t => simp [occs] at h
  | fls => simp [occs] at h
  | bin k a b iha ihb =>
    rw [occs, List.mem_append] at h
    simp only [repO, enc, List.length_cons, List.length_append]
    rcases h with h | h
    · have := iha h; omega
    · have := ihb h; omega
  | un k a ih =>
    by_cases ho : a.occ s = true
    · rw [occs, if_pos ho] at h
      have : g = .un k a := by simpa using h
      rw [repO, if_pos ho, this]; exact Nat.le_refl _
    · rw [occs, if_neg ho] at h; simp at h
theorem repO_le {s : Nat} {r : Fm → Fm} {f : Fm} {M : Nat} (h1 : 1 ≤ M) (h : ∀ g ∈ occs s f, (enc (r g)).length ≤ M) : (enc (repO s r f)).length ≤ (enc f).length * M := by
  induction f with
  | var t => simp only [repO, enc, List.length_cons, List.length_nil]; omega
  | fls => simp only [repO, enc, List.length_cons, List.length_nil]; omega
  | bin k a b iha ihb =>
    have h1 := iha fun g hg => h g (by rw [occs, List.mem_append]; exact .inl hg)
    have h2 := ihb fun g hg => h g (by rw [occs, List.mem_append]; exact .inr hg)
    simp only [repO, enc, List.length_cons, List.length_append, Nat.add_mul, Nat.one_mul] at *
    omega
  | un k a ih =>
    by_cases ho : a.occ s = true
    · have := h (.un k a) (by rw [occs, if_pos ho]; simp)
      rw [repO, if_pos ho]
      simp only [enc, List.length_cons, Nat.add_mul, Nat.one_mul]
      omega
    · rw [repO, if_neg ho]; exact Nat.le_mul_of_pos_right _ h1
theorem repO_ok {s : Nat} {r : Fm → Fm} {f : Fm} (hf : f.ok = true) (h : ∀ g ∈ occs s f, (r g).ok = true) : (repO s r f).ok = true := by
  induction f with
  | var t => exact hf
  | fls => rfl
  | bin k a b iha ihb =>
    simp only [Fm.ok, Bool.and_eq_true] at hf
    have h1 := iha hf.1 fun g hg => h g (by rw [occs, List.mem_append]; exact .inl hg)
    have h2 := ihb hf.2 fun g hg => h g (by rw [occs, List.mem_append]; exact .inr hg)
    simp only [repO, Fm.ok, Bool.and_eq_true]
    exact ⟨h1, h2⟩
  | un k a ih =>
    by_cases ho : a.occ s = true
    · rw [repO, if_pos ho]; exact h (.un k a) (by rw [occs, if_pos ho]; simp)
    · rw [repO, if_neg ho]; exact hf
theorem repO_gd {s : Nat} {r : Fm → Fm} {f : Fm} (hf : gd f s = true) (h : ∀ g ∈ occs s f, gd (r g) s = true) : gd (repO s r f) s = true := by
  induction f with
  | var t => exact hf
  | fls => rfl
  | bin k a b iha ihb =>
    simp only [gd, Bool.and_eq_true] at hf
    have h1 := iha hf.1 fun g hg => h g (by rw [occs, List.mem_append]; exact .inl hg)
    have h2 := ihb hf.2 fun g hg => h g (by rw [occs, List.mem_append]; exact .inr hg)
    simp only [repO, gd, Bool.and_eq_true]
    exact ⟨h1, h2⟩
  | un k a ih =>
    by_cases ho : a.occ s = true
    · rw [repO, if_pos ho]; exact h (.un k a) (by rw [occs, if_pos ho]; simp)
    · rw [repO, if_neg ho]; rfl
theorem gd_occ {s : Nat} {f : Fm} (hf : gd f s = true) : f.occ s = true ↔ occs s f ≠ [] := by
  constructor
  · intro ho
    induction f with
    | var t => simp [gd, Fm.occ] at hf ho; exact absurd ho hf
    | fls => cases ho
    | bin k a b iha ihb =>
      simp only [gd, Bool.and_eq_true] at hf
      simp only [Fm.occ, Bool.or_eq_true] at ho
      rw [occs]
      rcases ho with ho | ho
      · have := iha hf.1 ho
        simp [this]
      · have := ihb hf.2 ho
        simp [this]
    | un k a ih => rw [occs, if_pos (show a.occ s = true from ho)]; simp
  · intro h
    cases ho : f.occ s
    · exact absurd (occs_no ho) h
    · rfl
theorem enc_in {l : List Fm} {g : Fm} : isin l g = true ↔ enc g ∈ l.map enc := by
  unfold isin
  rw [List.any_eq_true, List.mem_map]
  constructor
  · rintro ⟨h, h1, h2⟩; exact ⟨h, h1, by simpa using h2⟩
  · rintro ⟨h, h1, h2⟩; exact ⟨h, h1, by simpa using h2⟩
theorem ins_nodup {l : List Fm} (h : (l.map enc).Nodup) (g : Fm) : ((ins l g).map enc).Nodup := by
  unfold ins
  split
  · exact h
  · rename_i hn
    rw [List.map_append, List.nodup_append]
    refine ⟨h, by simp, fun a ha b hb e => ?_⟩
    have hb' : b = enc g := by simpa using hb
    subst e
    exact hn (enc_in.2 (hb' ▸ ha))
theorem ins_mem {l : List Fm} {g x : Fm} (h : x ∈ ins l g) : x ∈ l ∨ x = g := by
  unfold ins at h
  split at h
  · exact .inl h
  · rw [List.mem_append, List.mem_singleton] at h; exact h
theorem ins_in (l : List Fm) (g : Fm) : isin (ins l g) g = true ∧ ∀ x, isin l x = true → isin (ins l g) x = true := by
  unfold ins
  split
  · rename_i h; exact ⟨h, fun x hx => hx⟩
  · refine ⟨by simp [isin], fun x hx => ?_⟩
    unfold isin at *
    rw [List.any_append, hx]; rfl
theorem fold_nodup : ∀ (L l : List Fm), (l.map enc).Nodup → ((L.foldl ins l).map enc).Nodup
  | [], l, h => h
  | g :: L, l, h => fold_nodup L _ (ins_nodup h g)
theorem fold_mem : ∀ (L l : List Fm) (x : Fm), x ∈ L.foldl ins l → x ∈ l ∨ x ∈ L
  | [], l, x, h => .inl h
  | g :: L, l, x, h => by
    rcases fold_mem L (ins l g) x h with h | h
    · rcases ins_mem h with h | h
      · exact .inl h
      · subst h; exact .inr List.mem_cons_self
    · exact .inr (List.mem_cons_of_mem _ h)
theorem fold_in : ∀ (L l : List Fm) (x : Fm), (isin l x = true ∨ x ∈ L) → isin (L.foldl ins l) x = true
  | [], l, x, h => h.elim id fun h => by cases h
  | g :: L, l, x, h => by
    refine fold_in L _ x ?_
    rcases h with h | h
    · exact .inl ((ins_in l g).2 x h)
    · rcases List.mem_cons.1 h with rfl | h
      · exact .inl (ins_in l x).1
      · exact .inr h
theorem nodup_le {α : Type} [DecidableEq α] : ∀ (l m : List α), l.Nodup → (∀ x ∈ l, x ∈ m) → l.length ≤ m.length
  | [], m, _, _ => Nat.zero_le _
  | x :: l, m, hn, hs => by
    rw [List.nodup_cons] at hn
    have hx := hs x List.mem_cons_self
    have := nodup_le l (m.erase x) hn.2 fun y hy => (List.mem_erase_of_ne (show y ≠ x from fun e => hn.1 (by rw [← e]; exact hy))).2 (hs y (List.mem_cons_of_mem _ hy))
    rw [List.length_erase_of_mem hx] at this
    have hp := List.length_pos_of_mem hx
    rw [List.length_cons]; omega
theorem outs_mem {s : Nat} {f x : Fm} (h : x ∈ outs s f []) : x ∈ occs s f := (fold_mem _ _ _ h).elim (fun h => by cases h) id
theorem outs_length (s : Nat) (f : Fm) : (outs s f []).length ≤ (occs s f).length := by
  have h := nodup_le _ ((occs s f).map enc) (fold_nodup (occs s f) [] (by simp)) fun x hx => by
    obtain ⟨g, hg, rfl⟩ := List.mem_map.1 hx
    exact List.mem_map.2 ⟨g, outs_mem hg, rfl⟩
  simpa [outs] using h
theorem outs_nil {s : Nat} {f : Fm} : outs s f [] = [] ↔ occs s f = [] := by
  constructor
  · intro h
    cases ho : occs s f with
    | nil => rfl
    | cons g L =>
      have := fold_in (occs s f) [] g (.inr (by rw [ho]; exact List.mem_cons_self))
      rw [show (occs s f).foldl ins [] = [] from h] at this
      cases this
  · intro h; unfold outs; rw [h]; rfl
/-- where a formula is in a list -/
def ix (O : List Fm) (g : Fm) : Nat := O.findIdx fun h => decide (enc h = enc g)
/-- the image of a formula, which stands where the formula stands in another list -/
def ims (O I : List Fm) (g : Fm) : Fm := I.getD (ix O g) .fls
theorem ix_lt {O : List Fm} {g : Fm} (h : isin O g = true) : ix O g < O.length := by
  unfold isin at h
  unfold ix
  rw [List.any_eq_true] at h
  exact List.findIdx_lt_length_of_exists (by obtain ⟨x, h1, h2⟩ := h; exact ⟨x, h1, h2⟩)
theorem ix_at {O : List Fm} {g : Fm} (h : ix O g < O.length) : enc (O.getD (ix O g) .fls) = enc g := by
  have h2 : O.findIdx (fun h => decide (enc h = enc g)) < O.length := h
  have := List.findIdx_getElem (w := h2)
  rw [List.getD_eq_getElem?_getD, List.getElem?_eq_getElem h]
  exact of_decide_eq_true this
theorem ix_self {O : List Fm} (h : (O.map enc).Nodup) {i : Nat} (hi : i < O.length) : ix O (O.getD i .fls) = i := by
  have hl : ix O (O.getD i .fls) < O.length := ix_lt (enc_in.2 (List.mem_map.2 ⟨_, by rw [List.getD_eq_getElem?_getD, List.getElem?_eq_getElem hi]; exact List.getElem_mem hi, rfl⟩))
  have hx := ix_at hl
  generalize ix O (O.getD i .fls) = j at *
  rw [List.getD_eq_getElem?_getD, List.getD_eq_getElem?_getD, List.getElem?_eq_getElem hi, List.getElem?_eq_getElem hl] at hx
  refine (List.getElem?_inj (by simpa using hl) h).1 ?_
  rw [List.getElem?_map, List.getElem?_map, List.getElem?_eq_getElem hi, List.getElem?_eq_getElem hl]
  exact congrArg some hx
theorem ix_outs {s : Nat} {f g : Fm} (h : g ∈ occs s f) : ix (outs s f []) g < (outs s f []).length := ix_lt (fold_in _ _ _ (.inr h))
/-- the true formula -/
def truF : Fm := .bin .imp .fls .fls
def isbox : Fm → Bool
  | .un .box _ => true
  | _ => false
/-- what the i-th outer part is replaced by -/
def cst1 (g : Fm) : Fm := if isbox g then truF else .fls
theorem cst1_ok (g : Fm) : (cst1 g).ok = true := by unfold cst1; split <;> rfl
theorem cst1_gd (g : Fm) (s : Nat) : gd (cst1 g) s = true := by unfold cst1; split <;> rfl
theorem cst1_len (g : Fm) : (enc (cst1 g)).length ≤ 3 := by unfold cst1; split <;> decide
theorem cst1_occs (g : Fm) (s : Nat) : occs s (cst1 g) = [] := by unfold cst1; split <;> rfl
/-- the formula with its i-th outer part replaced by what is constant -/
def wto (s : Nat) (f : Fm) (i : Nat) : Fm := repO s (ims (outs s f []) ((outs s f []).set i (cst1 ((outs s f []).getD i .fls)))) f
theorem ims_set {O : List Fm} {i : Nat} {c g : Fm} (h : ix O g < O.length) : ims O (O.set i c) g = if ix O g = i then c else O.getD (ix O g) .fls := by
  unfold ims
  rw [List.getD_eq_getElem?_getD, List.getElem?_set]
  by_cases hi : i = ix O g
  · rw [if_pos hi, if_pos hi.symm, if_pos (hi ▸ h)]; rfl
  · rw [if_neg hi, if_neg (fun e => hi e.symm), List.getD_eq_getElem?_getD]
theorem getF_mem {O : List Fm} {i : Nat} (h : i < O.length) : O.getD i .fls ∈ O := by
  rw [List.getD_eq_getElem?_getD, List.getElem?_eq_getElem h]; exact List.getElem_mem h
theorem wto_img {s : Nat} {f g : Fm} {i : Nat} (h : g ∈ occs s f) :
    ims (outs s f []) ((outs s f []).set i (cst1 ((outs s f []).getD i .fls))) g = cst1 ((outs s f []).getD i .fls) ∨
    (ix (outs s f []) g ≠ i ∧ ims (outs s f []) ((outs s f []).set i (cst1 ((outs s f []).getD i .fls))) g ∈ occs s f ∧ enc (ims (outs s f []) ((outs s f []).set i (cst1 ((outs s f []).getD i .fls))) g) = enc g ∧
      ims (outs s f []) ((outs s f []).set i (cst1 ((outs s f []).getD i .fls))) g = (outs s f []).getD (ix (outs s f []) g) .fls) := by
  have hl := ix_outs h
  rw [ims_set hl]
  by_cases hi : ix (outs s f []) g = i
  · rw [if_pos hi]; exact .inl rfl
  · rw [if_neg hi]
    exact .inr ⟨hi, outs_mem (getF_mem hl), ix_at hl, rfl⟩
theorem wto_size (s : Nat) (f : Fm) (i : Nat) : (enc (wto s f i)).length + (occs s (wto s f i)).length ≤ (enc f).length + (occs s f).length := by
  refine repO_size fun g hg => ?_
  have h2 := (occs_len hg).1
  rcases wto_img (i := i) hg with h | ⟨-, h, he, -⟩
  · rw [h, cst1_occs]
    have := cst1_len ((outs s f []).getD i .fls)
    rw [List.length_nil]; omega
  · rw [he, occs_self h]; simp
theorem wto_ok {s : Nat} {f : Fm} (hf : f.ok = true) (hm : ∀ g ∈ occs s f, g.ok = true) (i : Nat) : (wto s f i).ok = true := by
  refine repO_ok hf fun g hg => ?_
  rcases wto_img (i := i) hg with h | ⟨-, h, he, -⟩
  · rw [h]; exact cst1_ok _
  · exact hm _ h
theorem occs_ok {s : Nat} {f : Fm} (hf : f.ok = true) : ∀ g ∈ occs s f, g.ok = true := by
  induction f with
  | var t => intro g hg; simp [occs] at hg
  | fls => intro g hg; simp [occs] at hg
  | bin k a b iha ihb =>
    intro g hg
    simp only [Fm.ok, Bool.and_eq_true] at hf
    rw [occs, List.mem_append] at hg
    exact hg.elim (iha hf.1 g) (ihb hf.2 g)
  | un k a ih =>
    intro g hg
    rw [occs] at hg
    split at hg
    · have : g = .un k a := by simpa using hg
      rw [this]; exact hf
    · simp at hg
theorem wto_gd {s : Nat} {f : Fm} (hf : gd f s = true) (i : Nat) : gd (wto s f i) s = true := by
  refine repO_gd hf fun g hg => ?_
  rcases wto_img (i := i) hg with h | ⟨-, h, he, -⟩
  · rw [h]; exact cst1_gd _ _
  · obtain ⟨k, a, e, -⟩ := occs_mem h
    rw [e]; rfl
theorem wto_outs {s : Nat} {f : Fm} {i : Nat} (hi : i < (outs s f []).length) : (outs s (wto s f i) []).length < (outs s f []).length := by
  have h := nodup_le ((outs s (wto s f i) []).map enc) (((outs s f []).eraseIdx i).map enc) (fold_nodup (occs s (wto s f i)) [] (by simp)) fun x hx => by
    obtain ⟨g, hg, rfl⟩ := List.mem_map.1 hx
    have hg2 := outs_mem hg
    unfold wto at hg2
    rw [occs_repO, List.mem_flatMap] at hg2
    obtain ⟨y, hy, hg3⟩ := hg2
    rcases wto_img (i := i) hy with h | ⟨hne, h, he, heq⟩
    · rw [h, cst1_occs] at hg3; cases hg3
    · rw [occs_self h] at hg3
      have hg4 := List.mem_singleton.1 hg3
      rw [hg4, heq]
      have hl := ix_outs hy
      refine List.mem_map.2 ⟨_, ?_, rfl⟩
      rw [List.mem_eraseIdx_iff_getElem?]
      exact ⟨ix (outs s f []) y, hne, by rw [List.getD_eq_getElem?_getD, List.getElem?_eq_getElem hl]; rfl⟩
  rw [List.length_map, List.length_map, List.length_eraseIdx, if_pos hi] at h
  omega
/-- a formula with a variable replaced -/
def Fm.sub : Fm → Nat → Fm → Fm
  | .var t, s, d => if t = s then d else .var t
  | .fls, _, _ => .fls
  | .bin k a b, s, d => .bin k (a.sub s d) (b.sub s d)
  | .un k a, s, d => .un k (a.sub s d)
theorem repL_enc (f : Fm) (s : Nat) (d : Fm) (hs : s ≤ 5) (hf : f.ok = true) : repL (enc f) s (enc d) = enc (f.sub s d) := by
  have hap : ∀ xs ys, repL (xs ++ ys) s (enc d) = repL xs s (enc d) ++ repL ys s (enc d) := fun xs ys => by simp [repL, subI]
  induction f with
  | var t =>
    have ht : t ≤ 5 := by simpa [Fm.ok] using hf
    simp only [enc, repL, subI, List.flatMap_cons, List.flatMap_nil, List.append_nil, if_pos, Fm.sub]
    rw [List.getD_eq_getElem?_getD, List.getElem?_set, idTo_length, Int.toNat_natCast]
    by_cases h : s = t
    · rw [if_pos h, if_pos h.symm, if_pos (by omega)]; rfl
    · rw [if_neg h, if_neg (fun e => h e.symm)]
      simp [idTo, List.getElem?_range (show t < 6 by omega), enc]
  | fls => rfl
  | bin k a b iha ihb =>
    simp only [Fm.ok, Bool.and_eq_true] at hf
    have e : enc (.bin k a b) = [(k.i, 0)] ++ (enc a ++ enc b) := rfl
    rw [e, hap, hap, iha hf.1, ihb hf.2]
    have : repL [(k.i, 0)] s (enc d) = [(k.i, 0)] := by cases k <;> rfl
    rw [this]; rfl
  | un k a ih =>
    have e : enc (.un k a) = [(k.i, 0)] ++ enc a := rfl
    rw [e, hap, ih hf]
    have : repL [(k.i, 0)] s (enc d) = [(k.i, 0)] := by cases k <;> rfl
    rw [this]; rfl
theorem sub_ok {f d : Fm} {s : Nat} (hf : f.ok = true) (hd : d.ok = true) : (f.sub s d).ok = true := by
  induction f with
  | var t => simp only [Fm.sub]; split; exact hd; exact hf
  | fls => rfl
  | bin k a b iha ihb =>
    simp only [Fm.ok, Bool.and_eq_true] at hf
    simp only [Fm.sub, Fm.ok, Bool.and_eq_true]
    exact ⟨iha hf.1, ihb hf.2⟩
  | un k a ih => exact ih hf
theorem sub_ge (f d : Fm) (s : Nat) : (enc f).length ≤ (enc (f.sub s d)).length := by
  induction f with
  | var t =>
    simp only [Fm.sub]
    split
    · exact enc_pos d
    · exact Nat.le_refl _
  | fls => exact Nat.le_refl _
  | bin k a b iha ihb => simp only [Fm.sub, enc, List.length_cons, List.length_append]; omega
  | un k a ih => simp only [Fm.sub, enc, List.length_cons]; omega
theorem sub_has {f : Fm} (d : Fm) {s : Nat} (h : f.occ s = true) : (enc d).length ≤ (enc (f.sub s d)).length := by
  induction f with
  | var t =>
    have : t = s := by simpa [Fm.occ] using h
    simp only [Fm.sub, if_pos this]; exact Nat.le_refl _
  | fls => cases h
  | bin k a b iha ihb =>
    simp only [Fm.occ, Bool.or_eq_true] at h
    simp only [Fm.sub, enc, List.length_cons, List.length_append]
    rcases h with h | h
    · have := iha h; omega
    · have := ihb h; omega
  | un k a ih =>
    have := ih h
    simp only [Fm.sub, enc, List.length_cons]; omega
theorem sub_le (f d : Fm) (s : Nat) : (enc (f.sub s d)).length ≤ (enc f).length * (enc d).length := by
  have hp := enc_pos d
  induction f with
  | var t =>
    simp only [Fm.sub]
    split
    · simp [enc]
    · simp only [enc, List.length_cons, List.length_nil]; omega
  | fls => simp only [Fm.sub, enc, List.length_cons, List.length_nil]; omega
  | bin k a b iha ihb => simp only [Fm.sub, enc, List.length_cons, List.length_append, Nat.add_mul, Nat.one_mul]; omega
  | un k a ih => simp only [Fm.sub, enc, List.length_cons, Nat.add_mul, Nat.one_mul]; omega
/-- the first k images; b builds the fixed point of the i-th formula; cap: an image of more than forty nodes ends it -/
def imsTo (s : Nat) (cap : Bool) (O : List Fm) (b : Nat → Option Fm) : Nat → Option (List Fm)
  | 0 => some []
  | k + 1 => match imsTo s cap O b k with
    | none => none
    | some l => match b k with
      | none => none
      | some d => if cap && decide (40 < (enc ((O.getD k .fls).sub s d)).length) then none else some (l ++ [(O.getD k .fls).sub s d])
/-- the built fixed point, of the reference -/
def bldS (s : Nat) : Nat → Fm → Option Fm
  | 0, f => some f
  | n + 1, f => if (outs s f []).length = 0 then some f else
    match imsTo s false (outs s f []) (fun i => bldS s n (wto s f i)) (outs s f []).length with
    | none => none
    | some I => if 40 < (enc (repO s (ims (outs s f []) I) f)).length then none else some (repO s (ims (outs s f []) I) f)
/-- the built fixed point, of the program -/
def bldI (s : Nat) : Nat → Fm → Option Fm
  | 0, f => if 40 < (enc f).length then none else some f
  | n + 1, f => if 40 < (enc f).length then none else if f.occ s = false then some f else
    match imsTo s true (outs s f []) (fun i => bldI s n (wto s f i)) (outs s f []).length with
    | none => none
    | some I => if 40 < (enc (repO s (ims (outs s f []) I) f)).length then none else some (repO s (ims (outs s f []) I) f)
/-- what is too long is not there -/
def capO : Option Fm → Option Fm
  | none => none
  | some d => if 40 < (enc d).length then none else some d
theorem imsTo_form {s : Nat} {cap : Bool} {O : List Fm} {b : Nat → Option Fm} : ∀ {k : Nat} {I : List Fm}, imsTo s cap O b k = some I → I.length = k ∧ ∀ i, i < k → ∃ d, b i = some d ∧ I.getD i .fls = (O.getD i .fls).sub s d
  | 0, I, h => by
    have : I = [] := by simpa [imsTo] using h.symm
    subst this
    exact ⟨rfl, fun i hi => by omega⟩
  | k + 1, I, h => by
    rw [imsTo] at h
    cases h1 : imsTo s cap O b k with
    | none => rw [h1] at h; cases h
    | some l =>
      cases h2 : b k with
      | none => rw [h1, h2] at h; cases h
      | some d =>
        rw [h1, h2] at h
        simp only at h
        split at h
        · cases h
        · obtain ⟨e1, e2⟩ := imsTo_form h1
          have : I = l ++ [(O.getD k .fls).sub s d] := by simpa using h.symm
          subst this
          refine ⟨by simp [e1], fun i hi => ?_⟩
          by_cases hik : i < k
          · obtain ⟨d', h3, h4⟩ := e2 i hik
            refine ⟨d', h3, ?_⟩
            rw [List.getD_eq_getElem?_getD, List.getElem?_append_left (by omega), ← List.getD_eq_getElem?_getD]
            exact h4
          · obtain rfl : i = k := by omega
            refine ⟨d, h2, ?_⟩
            rw [List.getD_eq_getElem?_getD, List.getElem?_append_right (by omega), e1, Nat.sub_self]
            rfl
/-- the images of the program, by those of the reference: none if one is too long -/
theorem imsTo_cap {s : Nat} {O : List Fm} {b b' : Nat → Option Fm} (hO : ∀ i, i < O.length → (O.getD i .fls).occ s = true) (hb : ∀ i, i < O.length → b' i = capO (b i)) :
    ∀ {k : Nat}, k ≤ O.length → (imsTo s true O b' k = none ∧ (imsTo s false O b k = none ∨ ∃ I i, imsTo s false O b k = some I ∧ i < k ∧ 40 < (enc (I.getD i .fls)).length)) ∨ (∃ I, imsTo s true O b' k = some I ∧ imsTo s false O b k = some I)
  | 0, _ => .inr ⟨[], rfl, rfl⟩
  | k + 1, hk => by
    rcases imsTo_cap hO hb (k := k) (by omega) with ⟨h1, h2⟩ | ⟨I, h1, h2⟩
    · refine .inl ⟨by rw [imsTo, h1], ?_⟩
      rcases h2 with h2 | ⟨I, i, h2, hi, h3⟩
      · exact .inl (by rw [imsTo, h2])
      · cases h4 : b k with
        | none => exact .inl (by rw [imsTo, h2, h4])
        | some d =>
          refine .inr ⟨I ++ [(O.getD k .fls).sub s d], i, by rw [imsTo, h2, h4]; rfl, by omega, ?_⟩
          have := (imsTo_form h2).1
          rw [List.getD_eq_getElem?_getD, List.getElem?_append_left (by omega), ← List.getD_eq_getElem?_getD]
          exact h3
    · have hlen := (imsTo_form h2).1
      have hb' := hb k (by omega)
      cases h4 : b k with
      | none =>
        rw [h4] at hb'
        exact .inl ⟨by rw [imsTo, h1, hb']; rfl, .inl (by rw [imsTo, h2, h4])⟩
      | some d =>
        rw [h4] at hb'
        have hI : imsTo s false O b (k + 1) = some (I ++ [(O.getD k .fls).sub s d]) := by rw [imsTo, h2, h4]; rfl
        have hat : (I ++ [(O.getD k .fls).sub s d]).getD k .fls = (O.getD k .fls).sub s d := by
          rw [List.getD_eq_getElem?_getD, List.getElem?_append_right (by omega), hlen, Nat.sub_self]; rfl
        by_cases hlong : 40 < (enc ((O.getD k .fls).sub s d)).length
        · refine .inl ⟨?_, .inr ⟨_, k, hI, by omega, by rw [hat]; exact hlong⟩⟩
          rw [imsTo, h1]
          cases hc : b' k with
          | none => rfl
          | some d' =>
            rw [hc] at hb'
            simp only [capO] at hb'
            split at hb'
            · cases hb'
            · obtain rfl : d' = d := by simpa using hb'
              simp only
              rw [if_pos (by simpa using hlong)]
        · refine .inr ⟨_, ?_, hI⟩
          have hd := sub_has d (hO k (by omega))
          rw [capO, if_neg (by omega)] at hb'
          rw [imsTo, h1, hb']
          simp only
          rw [if_neg (by simpa using hlong)]
theorem bld_cap (s : Nat) : ∀ (n : Nat) (f : Fm), gd f s = true → (outs s f []).length ≤ n → bldI s n f = capO (bldS s n f)
  | 0, f, hg, hn => rfl
  | n + 1, f, hg, hn => by
    rw [bldI, bldS]
    have hocc : f.occ s = false ↔ (outs s f []).length = 0 := by
      rw [List.length_eq_zero_iff, outs_nil]
      have := gd_occ hg
      constructor
      · intro h; exact occs_no h
      · intro h
        cases ho : f.occ s
        · rfl
        · exact absurd h (this.1 ho)
    by_cases h0 : (outs s f []).length = 0
    · rw [if_pos (hocc.2 h0), if_pos h0]
      rfl
    · rw [if_neg (fun h => h0 (hocc.1 h)), if_neg h0]
      have hO : ∀ i, i < (outs s f []).length → ((outs s f []).getD i .fls).occ s = true := fun i hi => by
        obtain ⟨k, a, e, ho⟩ := occs_mem (outs_mem (getF_mem hi))
        rw [e]; exact ho
      have hb : ∀ i, i < (outs s f []).length → bldI s n (wto s f i) = capO (bldS s n (wto s f i)) := fun i hi =>
        bld_cap s n (wto s f i) (wto_gd hg i) (by have := wto_outs hi; omega)
      have hge : ∀ {I : List Fm} {c : Bool} {b : Nat → Option Fm}, imsTo s c (outs s f []) b (outs s f []).length = some I → ∀ g ∈ occs s f, (enc g).length ≤ (enc (ims (outs s f []) I g)).length := fun h g hgm => by
        obtain ⟨e1, e2⟩ := imsTo_form h
        have hl := ix_outs hgm
        obtain ⟨d, -, e3⟩ := e2 _ hl
        unfold ims
        rw [e3, ← ix_at hl]
        exact sub_ge _ _ _
      rcases imsTo_cap hO hb (Nat.le_refl _) with ⟨h1, h2⟩ | ⟨I, h1, h2⟩
      · rw [h1]
        have : capO (match imsTo s false (outs s f []) (fun i => bldS s n (wto s f i)) (outs s f []).length with
            | none => none
            | some I => if 40 < (enc (repO s (ims (outs s f []) I) f)).length then none else some (repO s (ims (outs s f []) I) f)) = none := by
          rcases h2 with h2 | ⟨I, i, h2, hi, h3⟩
          · rw [h2]; rfl
          · rw [h2]
            simp only
            have hm := outs_mem (getF_mem hi)
            have hx : enc ((outs s f []).getD (ix (outs s f []) ((outs s f []).getD i .fls)) .fls) = enc ((outs s f []).getD i .fls) := ix_at (ix_outs hm)
            have hix : ix (outs s f []) ((outs s f []).getD i .fls) = i := ix_self (fold_nodup (occs s f) [] (by simp)) hi
            have := repO_has (r := ims (outs s f []) I) hm
            rw [show ims (outs s f []) I ((outs s f []).getD i .fls) = I.getD i .fls by unfold ims; rw [hix]] at this
            rw [if_pos (by omega)]; rfl
        rw [this]
        split <;> rfl
      · rw [h1, h2]
        simp only
        have := repO_ge (hge h2)
        by_cases hlong : 40 < (enc (repO s (ims (outs s f []) I) f)).length
        · rw [if_pos hlong]
          split <;> rfl
        · rw [if_neg hlong, if_neg (by omega)]
          simp only [capO]
          rw [if_neg hlong]
/- Over any program: worlds that differ in some blocks only, told by a set of blocks that may grow; headers that read in the first world. -/
/-- w' is w but for the blocks of T, which lie from B on, and new ones -/
structure Fr (B : Nat) (T : Nat → Prop) (w w' : World) : Prop where
  os : w'.os = w.os
  tape : w'.tape = w.tape
  output : w'.output = w.output
  size : w.heap.size ≤ w'.heap.size
  block : ∀ k, k < w.heap.size → (k < B ∨ ¬ T k) → w'.heap[k]? = w.heap[k]?
/-- T' may be what T has become from w on -/
def Tgr (T : Nat → Prop) (w : World) (T' : Nat → Prop) : Prop := ∀ k, T' k → T k ∨ w.heap.size ≤ k
theorem Tgr.refl (T : Nat → Prop) (w : World) : Tgr T w T := fun k h => .inl h
theorem Tgr.trans {T T1 T2 : Nat → Prop} {w w1 : World} (h : Tgr T w T1) (hs : w.heap.size ≤ w1.heap.size) (k : Tgr T1 w1 T2) : Tgr T w T2 := fun i hi => (k i hi).elim (h i) fun hh => .inr (Nat.le_trans hs hh)
section
variable {B : Nat} {T T1 : Nat → Prop} {w w1 w2 : World}
theorem Fr.refl (B : Nat) (T : Nat → Prop) (w : World) : Fr B T w w := ⟨rfl, rfl, rfl, Nat.le_refl _, fun _ _ _ => rfl⟩
theorem Fr.trans (h : Fr B T w w1) (hT : Tgr T w T1) (k : Fr B T1 w1 w2) : Fr B T w w2 :=
  ⟨k.os.trans h.os, k.tape.trans h.tape, k.output.trans h.output, Nat.le_trans h.size k.size, fun i hi hn =>
    (k.block i (Nat.lt_of_lt_of_le hi h.size) (hn.imp id fun hn hi1 => (hT i hi1).elim hn fun hh => by omega)).trans (h.block i hi hn)⟩
theorem Fr.of_below (h : Below w.heap.size w w1) : Fr B T w w1 := ⟨h.os, h.tape, h.output, h.size, fun k hk _ => h.block k hk⟩
theorem Fr.of_grown {row : Option Nat} (h : w.grownBy w1 row) (hr : ∀ k, row = some k → B ≤ k ∧ T k) : Fr B T w w1 :=
  ⟨h.os, h.tape, h.output, h.size, fun k hk hn => h.block k hk fun e => by have := hr k e.symm; exact hn.elim (by omega) fun hn => hn this.2⟩
theorem Fr.set_ {p : Addr} (u : Value) (hp : B ≤ p.block ∧ T p.block) : Fr B T w (w.setCell p u) :=
  ⟨rfl, rfl, rfl, by simp [World.setCell], fun k hk hn => Below.heap_setCell w p u k fun e => by subst e; exact hn.elim (by omega) fun hn => hn hp.2⟩
theorem Fr.below {b : Nat} (h : Fr B T w w1) (hb : b ≤ B) (hs : b ≤ w.heap.size) : Below b w w1 := ⟨h.os, h.tape, h.output, h.size, fun k hk => h.block k (by omega) (.inl (by omega))⟩
theorem Fr.thenBelow {w0 : World} {b : Nat} (h0 : Below b w0 w) (h : Fr B T w w1) (hb : b ≤ B) (hs : b ≤ w.heap.size) : Below b w0 w1 := h0.trans (h.below hb hs)
/-- where nothing may change, all of the world stands -/
theorem Fr.all (h : Fr B T w w1) (hT : ∀ k, ¬ T k) : Below w.heap.size w w1 := ⟨h.os, h.tape, h.output, h.size, fun k hk => h.block k hk (.inr (hT k))⟩
theorem Fr.monoT (h : Fr B T w w1) (hT : ∀ k, T k → T1 k) : Fr B T1 w w1 := ⟨h.os, h.tape, h.output, h.size, fun k hk hn => h.block k hk (hn.imp id fun hn hi => hn (hT k hi))⟩
theorem Ow.fr {α : Type} {K : Cod α} {e : TypeId} {b : Nat} {v : Value} {xs : List α} (h : Ow K e b w v xs) (hf : Fr B T w w1) (hn : ∀ k, v.ownBlock = some k → ¬ T k) : Ow K e b w1 v xs := by
  refine ⟨h.1, h.2.1, ?_⟩
  rcases h.2.2 with h2 | ⟨g, cap, cur, hv, hB, hg, r⟩
  · exact .inl h2
  · exact .inr ⟨g, cap, cur, hv, hB, (hf.block g (Array.getElem?_eq_some_iff.1 hg).1 (.inr (hn g (by rw [hv]; rfl)))).trans hg, r⟩
theorem Blk.fr {g : Nat} {t : TypeId} {cs : Array Value} (h : Blk w g t cs) (hf : Fr B T w w1) (hn : ¬ T g) : Blk w1 g t cs := (hf.block g h.lt (.inr hn)).trans h
theorem Sl.fr0 {α : Type} {K : Cod α} {w0 : World} {v : Value} {xs : List α} (h : Sl K w0 v xs) (h0 : Below w0.heap.size w0 w) : Sl K w v xs := h.below h0
end
/-- the headers hs read in w0 as the formulas O -/
def Hs (w0 : World) (hs : List Hd) (O : List Fm) : Prop := hs.length = O.length ∧ ∀ i (a : i < hs.length) (b : i < O.length), Sl cN w0 hs[i].val (enc O[i])
section
variable {w0 w : World} {hs : List Hd} {O : List Fm}
theorem Hs.nil : Hs w0 [] [] := ⟨rfl, fun i a => by simp at a⟩
theorem Hs.snoc (h : Hs w0 hs O) {x : Hd} {g : Fm} (hx : Sl cN w0 x.val (enc g)) : Hs w0 (hs ++ [x]) (O ++ [g]) := by
  obtain ⟨h1, h2⟩ := h
  refine ⟨by simp [h1], fun i a b => ?_⟩
  by_cases hi : i < hs.length
  · rw [List.getElem_append_left hi, List.getElem_append_left (by omega)]
    exact h2 i hi (by omega)
  · have e : i = hs.length := by simp at a; omega
    subst e
    rw [List.getElem_append_right (Nat.le_refl _), List.getElem_append_right (by omega)]
    simpa using hx
theorem Hs.below (h : Hs w0 hs O) (hb : Below w0.heap.size w0 w) : Hs w hs O := ⟨h.1, fun i a b => (h.2 i a b).below hb⟩
theorem Hs.sl2 {v : Value} (h : Hs w hs O) (hv : Sl cH w v hs) : Sl2 cN w v (O.map enc) := ⟨hs, hv, by simp [h.1], fun i a b => by simpa using h.2 i a (by simpa using b)⟩
theorem Sl2.toHs {v : Value} (h : Sl2 cN w v (O.map enc)) : ∃ hs, Sl cH w v hs ∧ Hs w hs O := by
  obtain ⟨hs, h1, h2, h3⟩ := h
  exact ⟨hs, h1, by simpa using h2, fun i a b => by have := h3 i a (by simpa using b); rwa [List.getElem_map] at this⟩
theorem Hs.set_ (h : Hs w0 hs O) {i : Nat} {x : Hd} {g : Fm} (hx : Sl cN w0 x.val (enc g)) : Hs w0 (hs.set i x) (O.set i g) := by
  obtain ⟨h1, h2⟩ := h
  refine ⟨by simp [h1], fun j a b => ?_⟩
  rw [List.getElem_set, List.getElem_set]
  by_cases hij : i = j
  · rw [if_pos hij, if_pos hij]; exact hx
  · rw [if_neg hij, if_neg hij]; exact h2 j (by simpa using a) (by simpa using b)
end
theorem isin_range (O : List Fm) (g : Fm) : (List.range O.length).any (fun i => decide (enc (O.getD i .fls) = enc g)) = isin O g := any_range O .fls fun h => decide (enc h = enc g)
theorem ix_fidx {O : List Fm} {g : Fm} (h : ix O g < O.length) : fidx (fun i => decide (enc (O.getD i .fls) = enc g)) O.length = (ix O g : Nat) := by
  refine fidx_some h (fun i hi => ?_) (by rw [ix_at h]; exact decide_eq_true rfl)
  have := List.not_of_lt_findIdx (show i < O.findIdx (fun h => decide (enc h = enc g)) from hi)
  rw [List.getD_eq_getElem?_getD, List.getElem?_eq_getElem (by omega)]
  simpa using this
/- Contracts of chapter 33: copies and comparisons of formulas, both sides. -/
theorem slices_Clone_node (v : Value) (xs : List Nd) (w : World) (h : Sl cN w v xs) (hl : xs.length ≤ 1048576) :
    Calls Tryz.prog 170 #[v] w fun e w' => ∃ u, e = .returned u ∧ Ow cN 82 w.heap.size w' u xs ∧ Below w.heap.size w w' := by
  obtain ⟨A, c, rfl⟩ := h.opn
  by_cases hA : A = none
  · subst hA
    obtain rfl := h.none_nil
    have hq := fun W : World => Lib.run_eql_slice_nil (P := Tryz.prog) W 26 82 none 0 c 0 0 Tryz.underlying26
    go_enter Tryz.func170, Tryz.ntmps170
    go_wp2_with (at_builtin; refine stopHere ?_)
    go_ret
    exact ⟨_, rfl, Ow.nil _ _, Below.refl _ _⟩
  · obtain ⟨ad, rfl⟩ := Option.ne_none_iff_exists'.1 hA
    clear hA
    have hq := fun W : World => Lib.run_eql_slice_nil (P := Tryz.prog) W 26 82 (some ad) xs.length c 0 0 Tryz.underlying26
    go_enter Tryz.func170, Tryz.ntmps170
    go_wp2_with (at_builtin; refine stopHere ?_)
    refine goHere ?_
    refine ap_sl (K := cN) _ ty_node rfl _ _ rfl rfl rfl (B := w.heap.size) (xs := []) (news := xs) (Ow.lit [] rfl rfl (Nat.le_refl _)) (h.alloc _) (by simp <;> omega) (by simp) ?_
    intro v1 w1 ho hg hb hat
    have hb' : Below w.heap.size w w1 := ((Below.refl _ _).alloc (Nat.le_refl _) _).trans hb
    have O := Lib.hid ho; clear ho hg hb hat
    go_wp2
    go_ret
    exact ⟨_, rfl, O.out, hb'⟩
theorem impl_clone (v : Value) (xs : List Nd) (w : World) (h : Sl cN w v xs) (hl : xs.length ≤ 1048576) :
    Calls Tryz.prog 99 #[v] w fun e w' => ∃ u, e = .returned u ∧ Ow cN 82 w.heap.size w' u xs ∧ Below w.heap.size w w' := by
  have HC := Lib.hid (slices_Clone_node v xs w h hl)
  clear h
  go_enter Tryz.func99, Tryz.ntmps99
  go_wp2_with fail
  refine HC.out.mono ?_
  rintro e w1 ⟨u, rfl, ho, hb⟩
  have O := Lib.hid ho; clear ho
  go_wp2
  go_ret
  exact ⟨_, rfl, O.out, hb⟩
theorem slices_Clone_nodes (v : Value) (xs : List Hd) (w : World) (h : Sl cH w v xs) (hl : xs.length ≤ 1048576) :
    Calls Tryz.prog 174 #[v] w fun e w' => ∃ u, e = .returned u ∧ Ow cH 26 w.heap.size w' u xs ∧ Below w.heap.size w w' := by
  obtain ⟨A, c, rfl⟩ := h.opn
  by_cases hA : A = none
  · subst hA
    obtain rfl := h.none_nil
    have hq := fun W : World => Lib.run_eql_slice_nil (P := Tryz.prog) W 46 26 none 0 c 0 0 Tryz.underlying46
    go_enter Tryz.func174, Tryz.ntmps174
    go_wp2_with (at_builtin; refine stopHere ?_)
    go_ret
    exact ⟨_, rfl, Ow.nil _ _, Below.refl _ _⟩
  · obtain ⟨ad, rfl⟩ := Option.ne_none_iff_exists'.1 hA
    clear hA
    have hq := fun W : World => Lib.run_eql_slice_nil (P := Tryz.prog) W 46 26 (some ad) xs.length c 0 0 Tryz.underlying46
    go_enter Tryz.func174, Tryz.ntmps174
    go_wp2_with (at_builtin; refine stopHere ?_)
    refine goHere ?_
    refine ap_sl (K := cH) _ ty_nodes rfl _ _ rfl rfl rfl (B := w.heap.size) (xs := []) (news := xs) (Ow.lit [] rfl rfl (Nat.le_refl _)) (h.alloc _) (by simp <;> omega) (by simp) ?_
    intro v1 w1 ho hg hb hat
    have hb' : Below w.heap.size w w1 := ((Below.refl _ _).alloc (Nat.le_refl _) _).trans hb
    have O := Lib.hid ho; clear ho hg hb hat
    go_wp2
    go_ret
    exact ⟨_, rfl, O.out, hb'⟩
theorem slices_Equal_node (v u : Value) (xs ys : List Nd) (w : World) (hx : Sl cN w v xs) (hy : Sl cN w u ys) (hl : xs.length ≤ 1073741824) (hl2 : ys.length ≤ 1073741824) :
    Calls Tryz.prog 223 #[v, u] w fun e w' => e = .returned (.bool (decide (xs = ys))) ∧ Below w.heap.size w w' := by
  obtain ⟨A, c, rfl⟩ := hx.opn
  obtain ⟨B, d, rfl⟩ := hy.opn
  by_cases hne : ys.length = xs.length
  · rw [hne] at hy ⊢
    have HL := Lib.hid hne
    go_enter Tryz.func223, Tryz.ntmps223
    go_wp2
    go_loopw [13] (fun i wr => ∃ j : Nat, j ≤ xs.length ∧ i = .int .i64 j ∧ (∀ k (h1 : k < xs.length) (h2 : k < ys.length), k < j → xs[k] = ys[k]) ∧ Below w.heap.size w wr) (fun i _ => xs.length - (intOf i).toNat)
    case atStart => exact ⟨0, Nat.zero_le _, rfl, fun k _ _ h => by omega, Below.refl _ _⟩
    case round =>
      obtain ⟨j, hj, rfl, hh, hb⟩ := hrel
      have Hh := Lib.hid hh; clear hh
      have HB := Lib.hid hb
      by_cases hlt : j < xs.length
      · have hlt2 : j < ys.length := by rw [HL.out]; exact hlt
        obtain ⟨b, o, rfl, hbl, hc0, hc1⟩ := (hx.below hb).atN hlt
        obtain ⟨b2, o2, rfl, hbl2, hd0, hd1⟩ := (hy.below hb).atN hlt2
        by_cases he : xs[j] = ys[j]
        · have HS : Hid (∀ k (h1 : k < xs.length) (h2 : k < ys.length), k < j + 1 → xs[k] = ys[k]) := Lib.hid fun k h1 h2 h3 => by
            rcases Nat.lt_or_ge k j with h | h
            · exact Hh.out k h1 h2 h
            · obtain rfl : k = j := by omega
              exact he
          have hnq := run_neq_node xs[j].1 xs[j].2 ys[j].1 ys[j].2
          have hd : (!(xs[j].1 == ys[j].1 && xs[j].2 == ys[j].2)) = false := by rw [he]; simp
          have hng := run_eqg_node
          rw [hd] at hnq
          generalize xs[j] = x at *
          generalize ys[j] = y at *
          clear hb hd he
          go_wp2
          go_quiet (fail)
          go_wp2
          go_roundw
          case rel => exact ⟨j + 1, by omega, by go_num, HS.out, below_drewN HB.out _⟩
          case measure => simp [intOf]; omega
        · have HE : Hid (decide (xs = ys) = false) := Lib.hid (decide_eq_false fun h => he (by subst h; rfl))
          have hnq := run_neq_node xs[j].1 xs[j].2 ys[j].1 ys[j].2
          have hd : (!(xs[j].1 == ys[j].1 && xs[j].2 == ys[j].2)) = true := by
            rw [Bool.not_eq_true', Bool.eq_false_iff]
            intro h
            simp only [Bool.and_eq_true, beq_iff_eq] at h
            exact he (Prod.ext h.1 h.2)
          have hng := run_eqg_node
          rw [hd] at hnq
          generalize xs[j] = x at *
          generalize ys[j] = y at *
          clear hb hd he
          go_wp2
          go_quiet (fail)
          go_wp2
          go_ret
          exact ⟨by rw [HE.out]; rfl, below_drewN HB.out _⟩
      · have HE : Hid (decide (xs = ys) = true) := Lib.hid (decide_eq_true (List.ext_getElem HL.out.symm fun k h1 h2 => Hh.out k h1 h2 (by omega)))
        clear hb
        go_wp2
        go_ret
        exact ⟨by rw [HE.out]; rfl, HB.out⟩
  · have HE : Hid (decide (xs = ys) = false) := Lib.hid (decide_eq_false fun h => hne (by rw [h]))
    have hn2 : ¬ ((xs.length : Int) = (ys.length : Int)) := by omega
    have hn3 : ((xs.length : Int) != (ys.length : Int)) = true := by simpa using hn2
    clear hx hy
    go_enter Tryz.func223, Tryz.ntmps223
    go_wp2
    go_ret
    exact ⟨by rw [HE.out]; rfl, Below.refl _ _⟩
theorem impl_same (v u : Value) (xs ys : List Nd) (w : World) (hx : Sl cN w v xs) (hy : Sl cN w u ys) (hl : xs.length ≤ 1073741824) (hl2 : ys.length ≤ 1073741824) :
    Calls Tryz.prog 159 #[v, u] w fun e w' => e = .returned (.bool (decide (xs = ys))) ∧ Below w.heap.size w w' := by
  have HC := Lib.hid (slices_Equal_node v u xs ys w hx hy hl hl2)
  clear hx hy
  go_enter Tryz.func159, Tryz.ntmps159
  go_wp2_with fail
  refine HC.out.mono ?_
  rintro e w1 ⟨rfl, hb⟩
  go_wp2
  go_ret
  exact ⟨rfl, hb⟩
theorem spec_l02Equal (v u : Value) (xs ys : List Nd) (w : World) (hx : Sl cN w v xs) (hy : Sl cN w u ys) (hl : xs.length ≤ 1073741824) (hl2 : ys.length ≤ 1073741824) :
    Calls Tryz.prog 161 #[v, u] w fun e w' => e = .returned (.bool (decide (xs = ys))) ∧ Below w.heap.size w w' := by
  obtain ⟨A, c, rfl⟩ := hx.opn
  obtain ⟨B, d, rfl⟩ := hy.opn
  by_cases hne : ys.length = xs.length
  · rw [hne] at hy ⊢
    have HL := Lib.hid hne
    go_enter Tryz.func161, Tryz.ntmps161
    go_wp2
    go_loopw [5] (fun i wr => ∃ j : Nat, j ≤ xs.length ∧ i = .int .i64 j ∧ (∀ k (h1 : k < xs.length) (h2 : k < ys.length), k < j → xs[k] = ys[k]) ∧ Below w.heap.size w wr) (fun i _ => xs.length - (intOf i).toNat)
    case atStart => exact ⟨0, Nat.zero_le _, rfl, fun k _ _ h => by omega, Below.refl _ _⟩
    case round =>
      obtain ⟨j, hj, rfl, hh, hb⟩ := hrel
      have Hh := Lib.hid hh; clear hh
      have HB := Lib.hid hb
      by_cases hlt : j < xs.length
      · have hlt2 : j < ys.length := by rw [HL.out]; exact hlt
        obtain ⟨b, o, rfl, hbl, hc0, hc1⟩ := (hx.below hb).atN hlt
        obtain ⟨b2, o2, rfl, hbl2, hd0, hd1⟩ := (hy.below hb).atN hlt2
        by_cases he : xs[j] = ys[j]
        · have HS : Hid (∀ k (h1 : k < xs.length) (h2 : k < ys.length), k < j + 1 → xs[k] = ys[k]) := Lib.hid fun k h1 h2 h3 => by
            rcases Nat.lt_or_ge k j with h | h
            · exact Hh.out k h1 h2 h
            · obtain rfl : k = j := by omega
              exact he
          have hnq := run_neq_node xs[j].1 xs[j].2 ys[j].1 ys[j].2
          have hd : (!(xs[j].1 == ys[j].1 && xs[j].2 == ys[j].2)) = false := by rw [he]; simp
          have hng := run_eqg_node
          rw [hd] at hnq
          generalize xs[j] = x at *
          generalize ys[j] = y at *
          clear hb hd he
          go_wp2
          go_quiet (fail)
          go_wp2
          go_roundw
          case rel => exact ⟨j + 1, by omega, by go_num, HS.out, below_drewN HB.out _⟩
          case measure => simp [intOf]; omega
        · have HE : Hid (decide (xs = ys) = false) := Lib.hid (decide_eq_false fun h => he (by subst h; rfl))
          have hnq := run_neq_node xs[j].1 xs[j].2 ys[j].1 ys[j].2
          have hd : (!(xs[j].1 == ys[j].1 && xs[j].2 == ys[j].2)) = true := by
            rw [Bool.not_eq_true', Bool.eq_false_iff]
            intro h
            simp only [Bool.and_eq_true, beq_iff_eq] at h
            exact he (Prod.ext h.1 h.2)
          have hng := run_eqg_node
          rw [hd] at hnq
          generalize xs[j] = x at *
          generalize ys[j] = y at *
          clear hb hd he
          go_wp2
          go_quiet (fail)
          go_wp2
          go_ret
          exact ⟨by rw [HE.out]; rfl, below_drewN HB.out _⟩
      · have HE : Hid (decide (xs = ys) = true) := Lib.hid (decide_eq_true (List.ext_getElem HL.out.symm fun k h1 h2 => Hh.out k h1 h2 (by omega)))
        clear hb
        go_wp2
        go_ret
        exact ⟨by rw [HE.out]; rfl, HB.out⟩
  · have HE : Hid (decide (xs = ys) = false) := Lib.hid (decide_eq_false fun h => hne (by rw [h]))
    have hn2 : ¬ ((xs.length : Int) = (ys.length : Int)) := by omega
    have hn3 : ((xs.length : Int) != (ys.length : Int)) = true := by simpa using hn2
    clear hx hy
    go_enter Tryz.func161, Tryz.ntmps161
    go_wp2
    go_ret
    exact ⟨by rw [HE.out]; rfl, Below.refl _ _⟩
def isun : Fm → Bool
  | .un _ _ => true
  | _ => false
theorem isun_head (f : Fm) : ∃ (k s : Int) (t : List Nd), enc f = (k, s) :: t ∧ isun f = (k == 5 || k == 6) := by
  cases f with
  | var s => exact ⟨0, s, [], rfl, rfl⟩
  | fls => exact ⟨1, 0, [], rfl, rfl⟩
  | bin k a b => exact ⟨k.i, 0, _, rfl, by cases k <;> rfl⟩
  | un k a => exact ⟨k.i, 0, _, rfl, by cases k <;> rfl⟩
theorem spec_l33Modal (f : Fm) (v : Value) (w : World) (h : Sl cN w v (enc f)) :
    Calls Tryz.prog 160 #[v] w fun e w' => e = .returned (.bool (isun f)) ∧ w = w' := by
  obtain ⟨k, s, t, he, hk⟩ := isun_head f
  obtain ⟨A, c, rfl⟩ := h.opn
  rw [he] at h
  rw [he]
  obtain ⟨b, o, rfl, hb, hc0, hc1⟩ := h.atN0
  have hL0 : 0 < ((k, s) :: t).length := by simp
  clear h he
  generalize ((k, s) :: t).length = L at *
  have HQ := Lib.hid hk
  clear hk
  simp only at hc0
  by_cases h5 : k = 5
  · subst h5
    go_enter Tryz.func160, Tryz.ntmps160
    go_wp2
    go_ret
    exact ⟨by rw [HQ.out]; rfl, rfl⟩
  · have h5' : (k == 5) = false := by simpa using h5
    rw [h5', Bool.false_or] at HQ
    go_enter Tryz.func160, Tryz.ntmps160
    go_wp2
    go_ret
    exact ⟨by rw [HQ.out]; rfl, rfl⟩
/- Contracts of chapter 33, of the reference: outer parts, replaced outer parts. -/
theorem left_g (v : Value) (n : Nd) (f : Fm) (rest : List Nd) (w : World) (h : Sl cN w v (n :: (enc f ++ rest))) (hl : (n :: (enc f ++ rest)).length ≤ 1048576) :
    Calls Tryz.prog 163 #[v] w fun e w' => ∃ u, e = .returned u ∧ (∀ W0, Sl cN W0 v (n :: (enc f ++ rest)) → Sl cN W0 u (enc f)) ∧ w = w' := by
  obtain ⟨A, c, rfl⟩ := h.opn
  obtain ⟨-, hc, hm⟩ := h.cap
  have hpos := enc_pos f
  have hlen : (n :: (enc f ++ rest)).length = 1 + (enc f).length + rest.length := by simp; omega
  have h2 := fun A' n' hn hA W0 (h0 : Sl cN W0 (.slice A (n :: (enc f ++ rest)).length c) (n :: (enc f ++ rest))) => h0.cutAt (A' := A') (n' := n') (i := 1) (j := 1 + (enc f).length) (c' := c - 1) (by omega) (by omega) hn hA (by omega) (by omega)
  rw [Nat.add_sub_cancel_left, take_enc] at h2
  have H2 := Lib.hid h2; clear h2
  have h1 := spec_l02Part _ _ 1 w h (by omega) (by omega)
  rw [show ((1 : Nat) : Int) = 1 from rfl, pe_first n f rest] at h1
  have H1 := Lib.hid h1; clear h1
  clear h
  generalize (n :: (enc f ++ rest)).length = L at *
  generalize hm' : (enc f).length = m at *
  have HM := Lib.hid hm'; clear hm'
  have HL := Lib.hid hlen
  have hL : 1 + m ≤ L := by omega
  clear hlen
  go_enter Tryz.func163, Tryz.ntmps163
  go_wp2_with fail
  refine H1.out.mono ?_
  rintro e w1 ⟨rfl, rfl⟩
  go_wp2
  go_ret
  exact ⟨_, rfl, H2.out _ _ (by omega) (fun b o hA => by subst hA; rfl), rfl⟩
theorem right_g (v : Value) (n : Nd) (f g : Fm) (w : World) (h : Sl cN w v (n :: (enc f ++ enc g))) (hl : (n :: (enc f ++ enc g)).length ≤ 1048576) :
    Calls Tryz.prog 162 #[v] w fun e w' => ∃ u, e = .returned u ∧ (∀ W0, Sl cN W0 v (n :: (enc f ++ enc g)) → Sl cN W0 u (enc g)) ∧ w = w' := by
  obtain ⟨A, c, rfl⟩ := h.opn
  obtain ⟨-, hc, hm⟩ := h.cap
  have hpos := enc_pos f
  have hpos2 := enc_pos g
  have hlen : (n :: (enc f ++ enc g)).length = 1 + (enc f).length + (enc g).length := by simp; omega
  have h2 := fun A' n' hn hA W0 (h0 : Sl cN W0 (.slice A (n :: (enc f ++ enc g)).length c) (n :: (enc f ++ enc g))) => h0.cutAt (A' := A') (n' := n') (i := 1 + (enc f).length) (j := 1 + (enc f).length + (enc g).length) (c' := c - (1 + (enc f).length)) (by omega) (by omega) hn hA (by omega) (by omega)
  have e2 := take_enc2 n f g []
  rw [List.append_nil] at e2
  rw [Nat.add_sub_cancel_left, Nat.add_comm 1 (enc f).length, e2] at h2
  have H2 := Lib.hid h2; clear h2 e2
  have h1 := spec_l02Part _ _ 1 w h (by omega) (by omega)
  rw [show ((1 : Nat) : Int) = 1 from rfl, pe_first n f (enc g), Nat.add_comm 1] at h1
  have H1 := Lib.hid h1; clear h1
  clear h
  generalize (n :: (enc f ++ enc g)).length = L at *
  generalize hm' : (enc f).length = m at *
  generalize hk' : (enc g).length = k at *
  have HM := Lib.hid hm'; clear hm'
  have HK := Lib.hid hk'; clear hk'
  have HL := Lib.hid hlen
  have hL : 1 + m + k ≤ L := by omega
  have hne : ¬ c = m + 1 := by omega
  clear hlen
  go_enter Tryz.func162, Tryz.ntmps162
  go_wp2_with fail
  refine H1.out.mono ?_
  rintro e w1 ⟨rfl, rfl⟩
  go_wp2
  go_ret
  exact ⟨_, rfl, H2.out _ _ (by have := HL.out; omega) (fun b o hA => by subst hA; rfl), rfl⟩
theorem fold_len : ∀ (L l : List Fm), (L.foldl ins l).length ≤ l.length + L.length
  | [], l => Nat.le_refl _
  | g :: L, l => by
    have := fold_len L (ins l g)
    have h2 : (ins l g).length ≤ l.length + 1 := by unfold ins; split <;> simp
    rw [List.foldl_cons, List.length_cons]; omega
/-- what l33Outer does -/
def OutOK (s : Nat) (f : Fm) : Prop := ∀ (v u : Value) (hs : List Hd) (l : List Fm) (w0 w : World) (B : Nat), Sl cN w0 v (enc f) → Below w0.heap.size w0 w → w0.heap.size ≤ B → B ≤ w.heap.size → Ow cH 26 B w u hs → Hs w0 hs l → l.length + (occs s f).length ≤ 1000 → (enc f).length ≤ 100 → (∀ x ∈ l, (enc x).length ≤ 100) →
    Calls Tryz.prog 95 #[v, .int .i64 s, u] w fun e w' => ∃ u' hs', e = .returned u' ∧ Ow cH 26 B w' u' hs' ∧ Hs w0 hs' (outs s f l) ∧ Below B w w'
theorem spec_l33Outer_no (s : Nat) (f : Fm) (ho : f.occ s = false) : OutOK s f := by
  intro v u hs l w0 w B h0 hb0 hB hBw hO hH hn hl hlx
  have HO := Lib.hid hO
  have HH := Lib.hid hH
  have HE : Hid (outs s f l = l) := Lib.hid (outs_no ho l)
  have HOc := Lib.hid (spec_l33Occurs v (enc f) s w (h0.below hb0) (by omega))
  rw [occ_enc, ho] at HOc
  clear h0 hb0 hO hH
  go_enter Tryz.func95, Tryz.ntmps95
  go_wp2_with fail
  refine HOc.out.mono ?_
  rintro e w1 ⟨rfl, rfl⟩
  go_wp2
  go_ret
  exact ⟨_, hs, rfl, HO.out, by rw [HE.out]; exact HH.out, Below.refl _ _⟩
theorem spec_l33Outer_var (s t : Nat) (ho : (Fm.var t).occ s = true) : OutOK s (.var t) := by
  intro v u hs l w0 w B h0 hb0 hB hBw hO hH hn hl hlx
  have HO := Lib.hid hO
  have HH := Lib.hid hH
  have HE : Hid (outs s (.var t) l = l) := Lib.hid rfl
  have h := h0.below hb0
  have HOc := Lib.hid (spec_l33Occurs v (enc (.var t)) s w h (by omega))
  rw [occ_enc, ho] at HOc
  have HMo := Lib.hid (spec_l33Modal (.var t) v w h)
  obtain ⟨A, c, rfl⟩ := h.opn
  simp only [enc, List.length_cons, List.length_nil] at h HOc HMo ⊢
  obtain ⟨b, o, rfl, hb, hc0, hc1⟩ := h.atN0
  clear h0 hb0 hO hH h
  go_enter Tryz.func95, Tryz.ntmps95
  go_wp2_with fail
  refine HOc.out.mono ?_
  rintro e w1 ⟨rfl, rfl⟩
  go_wp2_with fail
  refine HMo.out.mono ?_
  rintro e w1 ⟨rfl, rfl⟩
  rw [show isun (.var t) = false from rfl]
  go_wp2_with fail
  refine (spec_l02Parts _ _).mono ?_
  rintro e w1 ⟨rfl, rfl⟩
  rw [show parts 0 = 0 from rfl]
  go_wp2
  go_ret
  exact ⟨_, hs, rfl, HO.out, by rw [HE.out]; exact HH.out, Below.refl _ _⟩
set_option maxRecDepth 100000 in
theorem spec_l33Outer_bin (s : Nat) (k : BK) (a b : Fm) (iha : OutOK s a) (ihb : OutOK s b) (ho : (Fm.bin k a b).occ s = true) : OutOK s (.bin k a b) := by
  intro v u hs l w0 w B h0 hb0 hB hBw hO hH hn hl hlx
  have HE : Hid (outs s (.bin k a b) l = outs s b (outs s a l)) := Lib.hid (outs_bin s k a b l)
  have h := h0.below hb0
  have HOc := Lib.hid (spec_l33Occurs v (enc (.bin k a b)) s w h (by omega))
  rw [occ_enc, ho] at HOc
  have HMo := Lib.hid (spec_l33Modal (.bin k a b) v w h)
  have hn2 : l.length + ((occs s a).length + (occs s b).length) ≤ 1000 := by simpa [occs] using hn
  have hla : (enc a).length ≤ 100 ∧ (enc b).length ≤ 100 := by simp [enc] at hl; omega
  have hfl : (outs s a l).length ≤ l.length + (occs s a).length := fold_len _ _
  have hfm : ∀ x ∈ outs s a l, (enc x).length ≤ 100 := fun x hx => (fold_mem _ _ _ hx).elim (hlx x) fun h => Nat.le_trans (occs_len h).2 hla.1
  have he : enc (.bin k a b) = (k.i, 0) :: (enc a ++ enc b) := rfl
  have HL := Lib.hid (left_g v (k.i, 0) a (enc b) w h (by rw [← he]; omega))
  have HR := Lib.hid (right_g v (k.i, 0) a b w h (by rw [← he]; omega))
  have HA := Lib.hid (fun (v1 : Value) (h1 : Sl cN w0 v1 (enc a)) => iha v1 u hs l w0 w B h1 hb0 hB hBw hO hH (by omega) hla.1 hlx)
  have HB := Lib.hid (fun (v1 u1 : Value) (hs1 : List Hd) (w1 : World) (h1 : Sl cN w0 v1 (enc b)) (hb1 : Below B w w1) (hO1 : Ow cH 26 B w1 u1 hs1) (hH1 : Hs w0 hs1 (outs s a l)) => ihb v1 u1 hs1 (outs s a l) w0 w1 B h1 (hb0.trans (hb1.mono hB)) hB (Nat.le_trans hBw hb1.size) hO1 hH1 (by omega) hla.2 hfm)
  have H0 := Lib.hid h0
  obtain ⟨A, c, rfl⟩ := h.opn
  have hL0 : 0 < (enc (.bin k a b)).length := enc_pos _
  rw [he] at h
  obtain ⟨bb, o, rfl, hb, hc0, hc1⟩ := h.atN0
  clear h0 hb0 hO hH h iha ihb hn hl hlx hn2 hla hfl hfm he hB hBw
  generalize (enc (.bin k a b)).length = L at *
  simp only at hc0
  go_enter Tryz.func95, Tryz.ntmps95
  go_wp2_with fail
  refine HOc.out.mono ?_
  rintro e w1 ⟨rfl, rfl⟩
  go_wp2_with fail
  refine HMo.out.mono ?_
  rintro e w1 ⟨rfl, rfl⟩
  rw [show isun (.bin k a b) = false from rfl]
  go_wp2_with fail
  refine (spec_l02Parts _ _).mono ?_
  rintro e w1 ⟨rfl, rfl⟩
  rw [BK.parts k]
  go_wp2_with fail
  refine HR.out.mono ?_
  rintro e w1 ⟨ur, rfl, hr, rfl⟩
  have HR0 := Lib.hid (hr _ H0.out)
  go_wp2_with fail
  refine HL.out.mono ?_
  rintro e w1 ⟨ul, rfl, hl, rfl⟩
  have HL0 := Lib.hid (hl _ H0.out)
  clear hr hl
  go_wp2_with fail
  refine (HA.out _ HL0.out).mono ?_
  rintro e w1 ⟨u1, hs1, rfl, o1, h1, b1⟩
  have HRun := Lib.hid (HB.out _ u1 hs1 w1 HR0.out b1 o1 h1)
  have HB1 := Lib.hid b1
  clear o1 h1 b1
  go_wp2_with fail
  refine HRun.out.mono ?_
  rintro e w2 ⟨u2, hs2, rfl, o2, h2, b2⟩
  have O2 := Lib.hid o2
  have H2 := Lib.hid h2
  have B2 := Lib.hid (HB1.out.trans b2)
  clear o2 h2 b2
  go_wp2
  go_ret
  exact ⟨_, hs2, rfl, O2.out, by rw [HE.out]; exact H2.out, B2.out⟩
theorem Sl.atHd' {w : World} {A : Option Addr} {n c : Nat} {hs : List Hd} (h : Sl cH w (.slice A n c) hs) {k : Nat} (hk : k < hs.length) :
    ∃ b o, A = some ⟨b, o, none⟩ ∧ b < w.heap.size ∧ w.cell? ⟨b, o + k, none⟩ = some (.slice hs[k].a hs[k].n hs[k].c) := by
  obtain ⟨b, o, hA, hb, hc⟩ := h.cell hk
  have := hc 0 hs[k].val rfl
  exact ⟨b, o, hA, hb, by simpa [cH, Hd.val] using this⟩
theorem isin_no {l : List Fm} {g : Fm} (h : ∀ k, k < l.length → ¬ enc (l.getD k .fls) = enc g) : isin l g = false := by
  unfold isin
  rw [← Bool.not_eq_true, List.any_eq_true]
  rintro ⟨x, hx, he⟩
  obtain ⟨k, hk, rfl⟩ := List.getElem_of_mem hx
  refine h k hk ?_
  rw [List.getD_eq_getElem?_getD, List.getElem?_eq_getElem hk]
  exact of_decide_eq_true he
theorem isin_yes {l : List Fm} {g : Fm} {k : Nat} (hk : k < l.length) (h : enc (l.getD k .fls) = enc g) : isin l g = true := by
  unfold isin
  rw [List.any_eq_true]
  exact ⟨_, getF_mem hk, decide_eq_true h⟩
set_option maxRecDepth 100000 in
theorem spec_l33Outer_un (s : Nat) (k : UK) (a : Fm) (ho : (Fm.un k a).occ s = true) : OutOK s (.un k a) := by
  intro v u hs l w0 w B h0 hb0 hB hBw hO hH hn hl hlx
  have hao : a.occ s = true := ho
  have HE : Hid (outs s (.un k a) l = if isin l (.un k a) then l else l ++ [.un k a]) := Lib.hid (outs_un s k a l hao)
  have h := h0.below hb0
  have HOc := Lib.hid (spec_l33Occurs v (enc (.un k a)) s w h (by omega))
  rw [occ_enc, ho] at HOc
  have HMo := Lib.hid (spec_l33Modal (.un k a) v w h)
  have HEq := Lib.hid (fun (W1 : World) (hb : Below w.heap.size w W1) (u1 : Value) (g : Fm) (hg : g ∈ l) (hu : Sl cN W1 u1 (enc g)) => spec_l02Equal u1 v (enc g) (enc (.un k a)) W1 hu (h.below hb) (by have := hlx g hg; omega) (by omega))
  have H0 := Lib.hid h0
  have hn2 : l.length ≤ 1000 := by omega
  obtain ⟨A, c, rfl⟩ := h0.opn
  obtain ⟨Ao, co, rfl⟩ := hO.opn
  have HN : Hid (hs.length = l.length) := Lib.hid hH.1
  rw [hH.1] at hO ⊢
  have HO := Lib.hid hO
  have HHs := Lib.hid hH
  have HB0 := Lib.hid hb0
  have HBB := Lib.hid hB
  have HBW := Lib.hid hBw
  clear h0 hb0 hO hH h hn hl hlx hB hBw hao ho
  generalize (enc (.un k a)).length = L at *
  go_enter Tryz.func95, Tryz.ntmps95
  go_wp2_with fail
  refine HOc.out.mono ?_
  rintro e w1 ⟨rfl, rfl⟩
  go_wp2_with fail
  refine HMo.out.mono ?_
  rintro e w1 ⟨rfl, rfl⟩
  rw [show isun (.un k a) = true from rfl]
  go_wp2
  go_loopw [7] (fun i wr => ∃ j : Nat, j ≤ l.length ∧ i = .int .i64 j ∧ (∀ m, m < j → ¬ enc (l.getD m .fls) = enc (.un k a)) ∧ Below w.heap.size w wr) (fun i _ => l.length - (intOf i).toNat)
  case atStart => exact ⟨0, Nat.zero_le _, rfl, fun m hm => by omega, Below.refl _ _⟩
  case round =>
    obtain ⟨j, hj, rfl, hh, hb⟩ := hrel
    have HNo := Lib.hid hh
    have HBr := Lib.hid hb
    clear hh
    by_cases hlt : j < l.length
    · have hlt' : j < hs.length := by rw [HN.out]; exact hlt
      obtain ⟨b, o, rfl, hbl, d0⟩ := (show Sl cH wr (.slice Ao hs.length co) hs by rw [HN.out]; exact (HO.out.below hb).sl).atHd' hlt'
      have HSm : Hid (Sl cN wr (.slice hs[j].a hs[j].n hs[j].c) (enc (l.getD j .fls))) := Lib.hid (by
        have := (HHs.out.2 j hlt' hlt).below (HB0.out.trans (hb.mono HB0.out.size))
        rw [List.getD_eq_getElem?_getD, List.getElem?_eq_getElem hlt]
        exact this)
      have HRun := Lib.hid (HEq.out wr hb _ _ (getF_mem hlt) HSm.out)
      generalize hs[j].a = ma at *
      generalize hs[j].n = mn at *
      generalize hs[j].c = mc at *
      clear hlt' hb
      go_wp2_with fail
      refine HRun.out.mono ?_
      rintro e w2 ⟨rfl, hb⟩
      have HB2 := Lib.hid (bthen HBr.out hb)
      clear hb d0 HRun
      by_cases he : enc (l.getD j .fls) = enc (.un k a)
      · have HIN : Hid (isin l (.un k a) = true) := Lib.hid (isin_yes hlt he)
        rw [decide_eq_true he]
        clear he
        go_wp2
        go_ret
        refine ⟨_, hs, rfl, HO.out.below HB2.out, ?_, HB2.out.mono HBW.out⟩
        rw [HE.out, if_pos HIN.out]; exact HHs.out
      · have HNo2 : Hid (∀ m, m < j + 1 → ¬ enc (l.getD m .fls) = enc (.un k a)) := Lib.hid fun m hm => by
          rcases Nat.lt_or_ge m j with h | h
          · exact HNo.out m h
          · obtain rfl : m = j := by omega
            exact he
        rw [decide_eq_false he]
        clear he
        go_wp2
        go_roundw
        case rel => exact ⟨j + 1, by omega, by go_num, HNo2.out, HB2.out⟩
        case measure => simp [intOf]; omega
    · obtain rfl : j = l.length := by omega
      have HIN : Hid (isin l (.un k a) = false) := Lib.hid (isin_no HNo.out)
      have ho2 := HO.out.below hb
      have HO2 := Lib.hid ho2
      clear ho2 hb
      go_wp2_with (at_builtin; refine stopHere ?_)
      refine goHere ?_
      refine ap_one' (K := cH) _ ty_nodes rfl _ _ rfl (B := B) (xs := hs) rfl HO2.out ⟨A, L, c⟩ rfl (g := wr.heap.size) (by simp) rfl (by have := HN.out; omega) (Nat.le_trans HBW.out HBr.out.size) ?_
      intro v1 w2 ho1 hg1 hb1 hat1
      have O1 := Lib.hid ho1
      have B1 := Lib.hid ((HBr.out.mono HBW.out).trans hb1)
      clear ho1 hg1 hb1 hat1
      go_wp2
      go_ret
      refine ⟨_, _, rfl, O1.out, ?_, B1.out⟩
      rw [HE.out, HIN.out, if_neg (by decide)]
      exact HHs.out.snoc H0.out
theorem spec_l33Outer (s : Nat) (f : Fm) : OutOK s f := by
  induction f with
  | var t =>
    cases ho : (Fm.var t).occ s
    · exact spec_l33Outer_no s _ ho
    · exact spec_l33Outer_var s t ho
  | fls => exact spec_l33Outer_no s _ rfl
  | bin k a b iha ihb =>
    cases ho : (Fm.bin k a b).occ s
    · exact spec_l33Outer_no s _ ho
    · exact spec_l33Outer_bin s k a b iha ihb ho
  | un k a ih =>
    cases ho : (Fm.un k a).occ s
    · exact spec_l33Outer_no s _ ho
    · exact spec_l33Outer_un s k a ho
/-- what l33Replace does -/
def RepOK (s : Nat) (O I : List Fm) (f : Fm) : Prop := ∀ (v : Value) (Ao Ai : Option Addr) (co ci : Nat) (w : World), Sl cN w v (enc f) → (enc f).length ≤ 100 → Sl2 cN w (.slice Ao O.length co) (O.map enc) → Sl2 cN w (.slice Ai I.length ci) (I.map enc) → (∀ g ∈ occs s f, ix O g < O.length) →
    Calls Tryz.prog 179 #[v, .int .i64 s, .slice Ao O.length co, .slice Ai I.length ci] w fun e w' => ∃ u, e = .returned u ∧ Ow cN 82 w.heap.size w' u (enc (repO s (ims O I) f)) ∧ Below w.heap.size w w'
theorem spec_l33Replace_no (s : Nat) (O I : List Fm) (f : Fm) (ho : f.occ s = false) : RepOK s O I f := by
  intro v Ao Ai co ci w h hl sO sI hx
  have HE : Hid (repO s (ims O I) f = f) := Lib.hid (repO_no _ ho)
  have HOc := Lib.hid (spec_l33Occurs v (enc f) s w h (by omega))
  rw [occ_enc, ho] at HOc
  have HOw := Lib.hid (spec_l02Own v (enc f) w h (by omega))
  clear h sO sI hx
  go_enter Tryz.func179, Tryz.ntmps179
  go_wp2_with fail
  refine HOc.out.mono ?_
  rintro e w1 ⟨rfl, rfl⟩
  go_wp2_with fail
  refine HOw.out.mono ?_
  rintro e w1 ⟨u, rfl, o1, b1⟩
  have O1 := Lib.hid o1
  clear o1
  go_wp2
  go_ret
  exact ⟨_, rfl, by rw [HE.out]; exact O1.out, b1⟩
theorem spec_l33Replace_var (s t : Nat) (O I : List Fm) (ho : (Fm.var t).occ s = true) : RepOK s O I (.var t) := by
  intro v Ao Ai co ci w h hl sO sI hx
  have HE : Hid (repO s (ims O I) (.var t) = .var t) := Lib.hid rfl
  have HOc := Lib.hid (spec_l33Occurs v (enc (.var t)) s w h (by omega))
  rw [occ_enc, ho] at HOc
  have HMo := Lib.hid (spec_l33Modal (.var t) v w h)
  have HOw := Lib.hid (spec_l02Own v (enc (.var t)) w h (by omega))
  obtain ⟨A, c, rfl⟩ := h.opn
  simp only [enc, List.length_cons, List.length_nil] at h HOc HMo HOw ⊢
  obtain ⟨b, o, rfl, hb, hc0, hc1⟩ := h.atN0
  clear h sO sI hx
  go_enter Tryz.func179, Tryz.ntmps179
  go_wp2_with fail
  refine HOc.out.mono ?_
  rintro e w1 ⟨rfl, rfl⟩
  go_wp2_with fail
  refine HMo.out.mono ?_
  rintro e w1 ⟨rfl, rfl⟩
  rw [show isun (.var t) = false from rfl]
  go_wp2_with fail
  refine (spec_l02Parts _ _).mono ?_
  rintro e w1 ⟨rfl, rfl⟩
  rw [show parts 0 = 0 from rfl]
  go_wp2_with fail
  refine HOw.out.mono ?_
  rintro e w1 ⟨u, rfl, o1, b1⟩
  have O1 := Lib.hid o1
  clear o1
  go_wp2
  go_ret
  exact ⟨_, rfl, by rw [HE.out]; exact O1.out, b1⟩
theorem Sl2.atG {W : World} {A : Option Addr} {n c : Nat} {I : List Fm} (h : Sl2 cN W (.slice A n c) (I.map enc)) {k : Nat} (hk : k < I.length) :
    ∃ b o Ai ni ci, A = some ⟨b, o, none⟩ ∧ b < W.heap.size ∧ W.cell? ⟨b, o + k, none⟩ = some (.slice Ai ni ci) ∧ Sl cN W (.slice Ai ni ci) (enc (I.getD k .fls)) := by
  obtain ⟨b, o, Ai, ni, ci, h1, h2, h3, h4⟩ := h.at_ (k := k) (by simpa using hk)
  refine ⟨b, o, Ai, ni, ci, h1, h2, h3, ?_⟩
  rw [List.getElem_map] at h4
  rw [List.getD_eq_getElem?_getD, List.getElem?_eq_getElem hk]
  exact h4
theorem ix_no {O : List Fm} {g : Fm} {j : Nat} (h : ∀ m, m < j → ¬ enc (O.getD m .fls) = enc g) (hj : j < O.length) (he : enc (O.getD j .fls) = enc g) : ix O g = j := by
  have hl : ix O g < O.length := ix_lt (isin_yes hj he)
  rcases Nat.lt_trichotomy (ix O g) j with h1 | h1 | h1
  · exact absurd (ix_at hl) (h _ h1)
  · exact h1
  · exfalso
    have := List.not_of_lt_findIdx (show j < O.findIdx (fun h => decide (enc h = enc g)) from h1)
    rw [List.getD_eq_getElem?_getD, List.getElem?_eq_getElem hj] at he
    simp at this
    exact this he
set_option maxRecDepth 100000 in
theorem spec_l33Replace_un (s : Nat) (O I : List Fm) (k : UK) (a : Fm) (ho : (Fm.un k a).occ s = true) (hIO : I.length = O.length) (hO1 : O.length ≤ 1000) (hlO : ∀ x ∈ O, (enc x).length ≤ 100) (hlI : ∀ x ∈ I, (enc x).length ≤ 8192) : RepOK s O I (.un k a) := by
  intro v Ao Ai co ci w h hl sO sI hx
  have hao : a.occ s = true := ho
  have HE : Hid (repO s (ims O I) (.un k a) = I.getD (ix O (.un k a)) .fls) := Lib.hid (by rw [repO, if_pos hao]; rfl)
  have HX : Hid (ix O (.un k a) < O.length) := Lib.hid (hx _ (by rw [occs, if_pos hao]; simp))
  have HOc := Lib.hid (spec_l33Occurs v (enc (.un k a)) s w h (by omega))
  rw [occ_enc, ho] at HOc
  have HMo := Lib.hid (spec_l33Modal (.un k a) v w h)
  have HEq := Lib.hid (fun (W1 : World) (hb : Below w.heap.size w W1) (u1 : Value) (g : Fm) (hg : g ∈ O) (hu : Sl cN W1 u1 (enc g)) => spec_l02Equal u1 v (enc g) (enc (.un k a)) W1 hu (h.below hb) (by have := hlO g hg; omega) (by omega))
  have HSO := Lib.hid sO
  have HSI := Lib.hid sI
  have HLI := Lib.hid hlI
  have HIO := Lib.hid hIO
  clear h hl sO sI hx hao ho hlO hlI hIO
  go_enter Tryz.func179, Tryz.ntmps179
  go_wp2_with fail
  refine HOc.out.mono ?_
  rintro e w1 ⟨rfl, rfl⟩
  go_wp2_with fail
  refine HMo.out.mono ?_
  rintro e w1 ⟨rfl, rfl⟩
  rw [show isun (.un k a) = true from rfl]
  go_wp2
  go_loopw [9] (fun i wr => ∃ j : Nat, j ≤ O.length ∧ i = .int .i64 j ∧ (∀ m, m < j → ¬ enc (O.getD m .fls) = enc (.un k a)) ∧ Below w.heap.size w wr) (fun i _ => O.length - (intOf i).toNat)
  case atStart => exact ⟨0, Nat.zero_le _, rfl, fun m hm => by omega, Below.refl _ _⟩
  case round =>
    obtain ⟨j, hj, rfl, hh, hb⟩ := hrel
    have HNo := Lib.hid hh
    have HBr := Lib.hid hb
    clear hh
    by_cases hlt : j < O.length
    · obtain ⟨b, o, ma, mn, mc, rfl, hbl, d0, hsm⟩ := (HSO.out.below hb).atG hlt
      obtain ⟨b2, o2, na, nn, nc, rfl, hbl2, d2, hsn⟩ := (HSI.out.below hb).atG (k := j) (by rw [HIO.out]; exact hlt)
      have HSm := Lib.hid hsm
      have HSn := Lib.hid hsn
      have HRun := Lib.hid (HEq.out wr hb _ _ (getF_mem hlt) HSm.out)
      have hij : j < I.length := by rw [HIO.out]; exact hlt
      clear hb hsm hsn
      go_wp2_with fail
      refine HRun.out.mono ?_
      rintro e w2 ⟨rfl, hb⟩
      have HB2 := Lib.hid (bthen HBr.out hb)
      by_cases he : enc (O.getD j .fls) = enc (.un k a)
      · have HIX : Hid (ix O (.un k a) = j) := Lib.hid (ix_no HNo.out hlt he)
        have d3 := (hb.cell (p := ⟨b2, o2 + j, none⟩) hbl2).trans d2
        have HOwn := Lib.hid (spec_l02Own _ (enc (I.getD j .fls)) w2 (HSn.out.below hb) (by have := HLI.out _ (getF_mem hij); omega))
        rw [decide_eq_true he]
        clear he hb d0 d2
        go_wp2_with fail
        refine HOwn.out.mono ?_
        rintro e w3 ⟨u, rfl, o3, b3⟩
        have O3 := Lib.hid (o3.mono HB2.out.size)
        have B3 := Lib.hid (bthen HB2.out b3)
        clear o3 b3 d3
        go_wp2
        go_ret
        exact ⟨_, rfl, by rw [HE.out, HIX.out]; exact O3.out, B3.out⟩
      · have HNo2 : Hid (∀ m, m < j + 1 → ¬ enc (O.getD m .fls) = enc (.un k a)) := Lib.hid fun m hm => by
          rcases Nat.lt_or_ge m j with h | h
          · exact HNo.out m h
          · obtain rfl : m = j := by omega
            exact he
        rw [decide_eq_false he]
        clear he hb d0 d2
        go_wp2
        go_roundw
        case rel => exact ⟨j + 1, by omega, by go_num, HNo2.out, HB2.out⟩
        case measure => simp [intOf]; omega
    · exfalso
      exact HNo.out _ (by have := HX.out; omega) (ix_at HX.out)
set_option maxHeartbeats 1000000 in
set_option maxRecDepth 100000 in
theorem spec_l33Replace_bin (s : Nat) (O I : List Fm) (k : BK) (a b : Fm) (iha : RepOK s O I a) (ihb : RepOK s O I b) (ho : (Fm.bin k a b).occ s = true) (hlI : ∀ x ∈ I, (enc x).length ≤ 8192) (hIO : I.length = O.length) : RepOK s O I (.bin k a b) := by
  intro v Ao Ai co ci w h hl sO sI hx
  have HE : Hid (enc (repO s (ims O I) (.bin k a b)) = [(k.i, 0)] ++ enc (repO s (ims O I) a) ++ enc (repO s (ims O I) b)) := Lib.hid (by simp [repO, enc])
  have HOc := Lib.hid (spec_l33Occurs v (enc (.bin k a b)) s w h (by omega))
  rw [occ_enc, ho] at HOc
  have HMo := Lib.hid (spec_l33Modal (.bin k a b) v w h)
  have hla : (enc a).length ≤ 100 ∧ (enc b).length ≤ 100 := by simp [enc] at hl; omega
  have he : enc (.bin k a b) = (k.i, 0) :: (enc a ++ enc b) := rfl
  have hxa : ∀ g ∈ occs s a, ix O g < O.length := fun g hg => hx g (by rw [occs, List.mem_append]; exact .inl hg)
  have hxb : ∀ g ∈ occs s b, ix O g < O.length := fun g hg => hx g (by rw [occs, List.mem_append]; exact .inr hg)
  have hbnd : ∀ (f : Fm), (∀ g ∈ occs s f, ix O g < O.length) → (enc f).length ≤ 100 → (enc (repO s (ims O I) f)).length ≤ 1048576 := fun f hf hl => by
    have := repO_le (s := s) (r := ims O I) (f := f) (M := 8192) (by omega) fun g hg => hlI _ (getF_mem (by have := hf g hg; omega))
    have h2 : (enc f).length * 8192 ≤ 100 * 8192 := Nat.mul_le_mul_right _ hl
    omega
  have HL := Lib.hid (fun (W1 : World) (hb : Below w.heap.size w W1) => left_g v (k.i, 0) a (enc b) W1 (h.below hb) (by rw [← he]; omega))
  have HR := Lib.hid (fun (W1 : World) (hb : Below w.heap.size w W1) => right_g v (k.i, 0) a b W1 (h.below hb) (by rw [← he]; omega))
  have HA := Lib.hid (fun (v1 : Value) (W1 : World) (hb : Below w.heap.size w W1) (h1 : Sl cN W1 v1 (enc a)) => iha v1 Ao Ai co ci W1 h1 hla.1 (sO.below hb) (sI.below hb) hxa)
  have HB := Lib.hid (fun (v1 : Value) (W1 : World) (hb : Below w.heap.size w W1) (h1 : Sl cN W1 v1 (enc b)) => ihb v1 Ao Ai co ci W1 h1 hla.2 (sO.below hb) (sI.below hb) hxb)
  have HLA := Lib.hid (hbnd a hxa hla.1)
  have HLB := Lib.hid (hbnd b hxb hla.2)
  have H0 : Hid (Sl cN w v ((k.i, (0 : Int)) :: (enc a ++ enc b))) := Lib.hid h
  obtain ⟨A, c, rfl⟩ := h.opn
  have hL0 : 0 < (enc (.bin k a b)).length := enc_pos _
  rw [he] at h
  obtain ⟨bb, o, rfl, hb, hc0, hc1⟩ := h.atN0
  clear h iha ihb hl hla he hx hxa hxb hbnd hlI hIO sO sI hc1
  generalize (enc (.bin k a b)).length = L at *
  simp only at hc0
  go_enter Tryz.func179, Tryz.ntmps179
  go_wp2_with fail
  refine HOc.out.mono ?_
  rintro e w1 ⟨rfl, rfl⟩
  go_wp2_with fail
  refine HMo.out.mono ?_
  rintro e w1 ⟨rfl, rfl⟩
  rw [show isun (.bin k a b) = false from rfl]
  go_wp2_with fail
  refine (spec_l02Parts _ _).mono ?_
  rintro e w1 ⟨rfl, rfl⟩
  rw [BK.parts k]
  go_upto_region 10 with fail
  refine wp_region_sched (Below w.heap.size w) 18 [0, 1, 2, 3, 4, 6, 7, 8, 10, 12, 13, 14, 17] [0, 1, 2, 3, 4, 6, 7, 8, 10, 12, 13, 14, 5, 9, 11, 15, 16, 17] (by kernel_rfl) (by kernel_rfl) (Below.refl _ _).drew ?_
  repeat
    apply wpSched_q rfl rfl
    case h =>
      intro w' hI K hK
      have hc0' := (hI.cell (p := ⟨bb, o, none⟩) hb).trans hc0
      simp only [quietV, stillV]
      go_simp
      exact hK
    go_simp
  refine wpSched_r rfl rfl ?_ (Below.refl _ _).drew
  intro K hK hI
  go_simp
  refine (HL.out _ hI).mono ?_
  rintro e w1 ⟨ul, rfl, hul, rfl⟩
  refine hK _ _ hI ?_
  clear hK K
  refine wpSched_r rfl rfl ?_ hI
  intro K hK _
  go_simp
  refine (HA.out ul _ hI (hul _ (H0.out.below hI))).mono ?_
  rintro e w2 ⟨ua, rfl, oa, ba⟩
  have hI2 := hI.trans (ba.mono hI.size)
  refine hK _ _ hI2 ?_
  clear hK K
  refine wpSched_r rfl rfl ?_ hI2
  intro K hK _
  go_simp
  refine (HR.out _ hI2).mono ?_
  rintro e w3 ⟨ur, rfl, hur, rfl⟩
  refine hK _ _ hI2 ?_
  clear hK K
  refine wpSched_r rfl rfl ?_ hI2
  intro K hK _
  go_simp
  refine (HB.out ur _ hI2 (hur _ (H0.out.below hI2))).mono ?_
  rintro e w3 ⟨ub, rfl, ob, bb3⟩
  have hI3 := hI2.trans (bb3.mono hI2.size)
  refine hK _ _ hI3 ?_
  clear hK K
  refine wpSched_r rfl rfl ?_ hI3
  intro K hK _
  go_simp
  refine (spec_l02Pair k.i ua ub _ _ w3 (oa.sl.below bb3) ob.sl HLA.out HLB.out).mono ?_
  rintro e w4 ⟨up, rfl, op, bp⟩
  have hI4 := hI3.trans (bp.mono hI3.size)
  refine hK _ _ hI4 ?_
  clear hK K
  repeat
    apply wpSched_q rfl rfl
    case h =>
      intro w' hI K hK
      simp only [quietV, stillV]
      go_simp
      exact hK
    go_simp
  refine wpSched_nil ?_
  try simp only [List.drop_succ_cons, List.drop_zero, List.drop_nil]
  have O4 := Lib.hid (op.mono hI3.size)
  have B4 := Lib.hid hI4
  clear op bp oa ob ba bb3 hI hI2 hI3 hI4 hc0
  go_wp2
  go_ret
  exact ⟨_, rfl, by rw [HE.out]; exact O4.out, B4.out⟩
theorem spec_l33Replace (s : Nat) (O I : List Fm) (hIO : I.length = O.length) (hO1 : O.length ≤ 1000) (hlO : ∀ x ∈ O, (enc x).length ≤ 100) (hlI : ∀ x ∈ I, (enc x).length ≤ 8192) (f : Fm) : RepOK s O I f := by
  induction f with
  | var t =>
    cases ho : (Fm.var t).occ s
    · exact spec_l33Replace_no s O I _ ho
    · exact spec_l33Replace_var s t O I ho
  | fls => exact spec_l33Replace_no s O I _ rfl
  | bin k a b iha ihb =>
    cases ho : (Fm.bin k a b).occ s
    · exact spec_l33Replace_no s O I _ ho
    · exact spec_l33Replace_bin s O I k a b iha ihb ho hlI hIO
  | un k a ih =>
    cases ho : (Fm.un k a).occ s
    · exact spec_l33Replace_no s O I _ ho
    · exact spec_l33Replace_un s O I k a ho hIO hO1 hlO hlI
end Go.Proofs.YtgcoohlakcncbaaGreat
