/- Plain law of intuitionistic sequents: models, what each rule of a search does to validity, countermodels glued under a root, a measure that falls. No program in sight. -/
import Derived.Test.YtaigiopoogbbbaaGreatY22
namespace Go.Proofs.YtaigiopoogbbbaaGreat
open Go.RowKit
set_option linter.unusedVariables false
set_option linter.unusedSimpArgs false
structure KM {W : Type} (R : W → W → Prop) (V : Nat → W → Prop) : Prop where
  rfl : ∀ x, R x x
  tra : ∀ x y z, R x y → R y z → R x z
  up : ∀ s x y, R x y → V s x → V s y
def frc {W : Type} (R : W → W → Prop) (V : Nat → W → Prop) : Fm → W → Prop
  | .var s, x => V s x
  | .fls, _ => False
  | .bin .and a b, x => frc R V a x ∧ frc R V b x
  | .bin .or a b, x => frc R V a x ∨ frc R V b x
  | .bin .imp a b, x => ∀ y, R x y → frc R V a y → frc R V b y
  | .un _ _, _ => False
theorem frc_up {W : Type} {R : W → W → Prop} {V : Nat → W → Prop} (h : KM R V) : ∀ (f : Fm) (x y : W), R x y → frc R V f x → frc R V f y
  | .var s, x, y, hxy, hf => h.up s x y hxy hf
  | .fls, _, _, _, hf => hf
  | .bin .and a b, x, y, hxy, hf => ⟨frc_up h a x y hxy hf.1, frc_up h b x y hxy hf.2⟩
  | .bin .or a b, x, y, hxy, hf => hf.elim (fun q => .inl (frc_up h a x y hxy q)) (fun q => .inr (frc_up h b x y hxy q))
  | .bin .imp a b, x, y, hxy, hf => fun z hyz ha => hf z (h.tra _ _ _ hxy hyz) ha
  | .un _ _, _, _, _, hf => hf
/-- a sequent that holds in all models -/
def Val (G : List Fm) (c : Fm) : Prop := ∀ (W : Type) (R : W → W → Prop) (V : Nat → W → Prop), KM R V → ∀ x, (∀ f ∈ G, frc R V f x) → frc R V c x
noncomputable def vlB (G : List Fm) (c : Fm) : Bool := @decide (Val G c) (Classical.propDecidable _)
theorem vlB_iff {G : List Fm} {c : Fm} : vlB G c = true ↔ Val G c := @decide_eq_true_iff (Val G c) (Classical.propDecidable _)
theorem vlB_eq {G G' : List Fm} {c c' : Fm} (h : Val G c ↔ Val G' c') : vlB G c = vlB G' c' := by rw [Bool.eq_iff_iff, vlB_iff, vlB_iff]; exact h
theorem vlB_true {G : List Fm} {c : Fm} (h : Val G c) : vlB G c = true := vlB_iff.2 h
theorem vlB_and {G G1 G2 : List Fm} {c c1 c2 : Fm} (h : Val G c ↔ Val G1 c1 ∧ Val G2 c2) : vlB G c = (vlB G1 c1 && vlB G2 c2) := by rw [Bool.eq_iff_iff, Bool.and_eq_true, vlB_iff, vlB_iff, vlB_iff]; exact h
/-- the members of a list are those of another one and one more -/
def Mem1 (G : List Fm) (f : Fm) (R : List Fm) : Prop := ∀ x, x ∈ G ↔ x = f ∨ x ∈ R
theorem Val.congr {G G' : List Fm} {c : Fm} (h : ∀ x, x ∈ G ↔ x ∈ G') : Val G c ↔ Val G' c :=
  ⟨fun hv W R V hm x hx => hv W R V hm x fun f hf => hx f ((h f).1 hf), fun hv W R V hm x hx => hv W R V hm x fun f hf => hx f ((h f).2 hf)⟩
theorem Val.ax {G : List Fm} {c : Fm} (h : c ∈ G) : Val G c := fun W R V hm x hx => hx c h
theorem Val.flsL {G : List Fm} {c : Fm} (h : .fls ∈ G) : Val G c := fun W R V hm x hx => (hx _ h).elim
/-- a step on the left: what the one formula says, at each world at which the rest holds -/
theorem Val.step {G R : List Fm} {f c : Fm} (hG : Mem1 G f R) {N : List Fm} (h1 : ∀ (W : Type) (Q : W → W → Prop) (V : Nat → W → Prop), KM Q V → ∀ x, (∀ g ∈ R, frc Q V g x) → (frc Q V f x ↔ ∀ g ∈ N, frc Q V g x)) : Val G c ↔ Val (N ++ R) c := by
  constructor
  · intro h W Q V hm x hx
    have hR : ∀ g ∈ R, frc Q V g x := fun g hg => hx g (List.mem_append_right _ hg)
    refine h W Q V hm x fun g hg => ?_
    rcases (hG g).1 hg with rfl | hg
    · exact (h1 W Q V hm x hR).2 fun g hg => hx g (List.mem_append_left _ hg)
    · exact hR g hg
  · intro h W Q V hm x hx
    have hR : ∀ g ∈ R, frc Q V g x := fun g hg => hx g ((hG g).2 (.inr hg))
    refine h W Q V hm x fun g hg => ?_
    rcases List.mem_append.1 hg with hg | hg
    · exact (h1 W Q V hm x hR).1 (hx f ((hG f).2 (.inl rfl))) g hg
    · exact hR g hg
theorem Val.andL {G R : List Fm} {a b c : Fm} (hG : Mem1 G (.bin .and a b) R) : Val G c ↔ Val ([a, b] ++ R) c :=
  Val.step hG fun W Q V hm x _ => by simp [frc]
theorem Val.orL {G R : List Fm} {a b c : Fm} (hG : Mem1 G (.bin .or a b) R) : Val G c ↔ Val ([a] ++ R) c ∧ Val ([b] ++ R) c := by
  constructor
  · intro h
    refine ⟨fun W Q V hm x hx => h W Q V hm x fun g hg => ?_, fun W Q V hm x hx => h W Q V hm x fun g hg => ?_⟩
    · rcases (hG g).1 hg with rfl | hg
      · exact .inl (hx a (by simp))
      · exact hx g (by simp [hg])
    · rcases (hG g).1 hg with rfl | hg
      · exact .inr (hx b (by simp))
      · exact hx g (by simp [hg])
  · rintro ⟨h1, h2⟩ W Q V hm x hx
    have hR : ∀ g ∈ R, frc Q V g x := fun g hg => hx g ((hG g).2 (.inr hg))
    rcases hx _ ((hG _).2 (.inl rfl)) with h | h
    · refine h1 W Q V hm x fun g hg => ?_
      simp only [List.singleton_append, List.mem_cons] at hg
      rcases hg with rfl | hg
      · exact h
      · exact hR g hg
    · refine h2 W Q V hm x fun g hg => ?_
      simp only [List.singleton_append, List.mem_cons] at hg
      rcases hg with rfl | hg
      · exact h
      · exact hR g hg
theorem Val.andimp {G R : List Fm} {a b d c : Fm} (hG : Mem1 G (.bin .imp (.bin .and a b) d) R) : Val G c ↔ Val ([.bin .imp a (.bin .imp b d)] ++ R) c :=
  Val.step hG fun W Q V hm x _ => by
    simp only [List.mem_singleton, forall_eq, frc]
    exact ⟨fun h y hxy ha z hyz hb => h z (hm.tra _ _ _ hxy hyz) ⟨frc_up hm a y z hyz ha, hb⟩, fun h y hxy hab => h y hxy hab.1 y (hm.rfl y) hab.2⟩
theorem Val.orimp {G R : List Fm} {a b d c : Fm} (hG : Mem1 G (.bin .imp (.bin .or a b) d) R) : Val G c ↔ Val ([.bin .imp a d, .bin .imp b d] ++ R) c :=
  Val.step hG fun W Q V hm x _ => by
    simp only [List.mem_cons, List.not_mem_nil, or_false, forall_eq_or_imp, forall_eq, frc]
    exact ⟨fun h => ⟨fun y hxy ha => h y hxy (.inl ha), fun y hxy hb => h y hxy (.inr hb)⟩, fun h y hxy hab => hab.elim (h.1 y hxy) (h.2 y hxy)⟩
theorem Val.flsimp {G R : List Fm} {d c : Fm} (hG : Mem1 G (.bin .imp .fls d) R) : Val G c ↔ Val ([] ++ R) c :=
  Val.step hG fun W Q V hm x _ => by simp [frc]
theorem Val.mp {G R : List Fm} {a d c : Fm} (hG : Mem1 G (.bin .imp a d) R) (ha : a ∈ R) : Val G c ↔ Val ([d] ++ R) c :=
  Val.step hG fun W Q V hm x hx => by
    simp only [List.mem_singleton, forall_eq]
    exact ⟨fun h => h x (hm.rfl x) (hx a ha), fun h y hxy _ => frc_up hm d x y hxy h⟩
theorem Val.usor {G R : List Fm} {a b c : Fm} (hG : Mem1 G (.bin .or a b) R) (ha : a ∈ R ∨ b ∈ R) : Val G c ↔ Val ([] ++ R) c :=
  Val.step hG fun W Q V hm x hx => by
    simp only [List.not_mem_nil, false_imp_iff, implies_true, iff_true]
    exact ha.elim (fun h => .inl (hx a h)) (fun h => .inr (hx b h))
theorem Val.usimp {G R : List Fm} {a b c : Fm} (hG : Mem1 G (.bin .imp a b) R) (hb : b ∈ R) : Val G c ↔ Val ([] ++ R) c :=
  Val.step hG fun W Q V hm x hx => by
    simp only [List.not_mem_nil, false_imp_iff, implies_true, iff_true]
    exact fun y hxy _ => frc_up hm b x y hxy (hx b hb)
theorem Val.andR {G : List Fm} {a b : Fm} : Val G (.bin .and a b) ↔ Val G a ∧ Val G b :=
  ⟨fun h => ⟨fun W Q V hm x hx => (h W Q V hm x hx).1, fun W Q V hm x hx => (h W Q V hm x hx).2⟩, fun h W Q V hm x hx => ⟨h.1 W Q V hm x hx, h.2 W Q V hm x hx⟩⟩
theorem Val.impR {G : List Fm} {a b : Fm} : Val G (.bin .imp a b) ↔ Val ([a] ++ G) b := by
  constructor
  · intro h W Q V hm x hx
    exact h W Q V hm x (fun g hg => hx g (by simp [hg])) x (hm.rfl x) (hx a (by simp))
  · intro h W Q V hm x hx y hxy ha
    refine h W Q V hm y fun g hg => ?_
    simp only [List.singleton_append, List.mem_cons] at hg
    rcases hg with rfl | hg
    · exact ha
    · exact frc_up hm g x y hxy (hx g hg)
theorem Val.orR {G : List Fm} {a b : Fm} (h : Val G a ∨ Val G b) : Val G (.bin .or a b) :=
  fun W Q V hm x hx => h.elim (fun h => .inl (h W Q V hm x hx)) (fun h => .inr (h W Q V hm x hx))
/-- the rule for an implication of an implication is sound -/
theorem Val.ii {G R : List Fm} {x y b c : Fm} (hG : Mem1 G (.bin .imp (.bin .imp x y) b) R) (h1 : Val ([.bin .imp y b] ++ R) (.bin .imp x y)) (h2 : Val ([b] ++ R) c) : Val G c := fun W Q V hm w hw => by
  have hR : ∀ g ∈ R, frc Q V g w := fun g hg => hw g ((hG g).2 (.inr hg))
  have hf := hw _ ((hG _).2 (.inl rfl))
  have hyb : frc Q V (.bin .imp y b) w := fun z hz hy => hf z hz fun z' hz' _ => frc_up hm y z z' hz' hy
  have hxy := h1 W Q V hm w fun g hg => by
    simp only [List.singleton_append, List.mem_cons] at hg
    rcases hg with rfl | hg
    · exact hyb
    · exact hR g hg
  refine h2 W Q V hm w fun g hg => ?_
  simp only [List.singleton_append, List.mem_cons] at hg
  rcases hg with rfl | hg
  · exact hf w (hm.rfl w) hxy
  · exact hR g hg
theorem Val.ii1 {G R : List Fm} {x y b : Fm} (hG : Mem1 G (.bin .imp (.bin .imp x y) b) R) (h : Val G (.bin .imp x y)) : Val ([.bin .imp y b] ++ R) (.bin .imp x y) := fun W Q V hm w hw z hwz hx => by
  refine Classical.byContradiction fun hy => hy ?_
  refine h W Q V hm z (fun g hg => ?_) z (hm.rfl z) hx
  rcases (hG g).1 hg with rfl | hg
  · intro u hzu hxy
    exact hw (.bin .imp y b) (by simp) u (hm.tra _ _ _ hwz hzu) (hxy u (hm.rfl u) (frc_up hm x z u hzu hx))
  · exact frc_up hm g w z hwz (hw g (by simp [hg]))
theorem Val.ii2 {G R : List Fm} {x y b c : Fm} (hG : Mem1 G (.bin .imp (.bin .imp x y) b) R) (h : Val G c) : Val ([b] ++ R) c := fun W Q V hm w hw => h W Q V hm w fun g hg => by
  rcases (hG g).1 hg with rfl | hg
  · exact fun u hu _ => frc_up hm b w u hu (hw b (by simp))
  · exact hw g (by simp [hg])
/-- a countermodel with a root at which all of the left side holds -/
structure CM (G : List Fm) where
  W : Type
  R : W → W → Prop
  V : Nat → W → Prop
  km : KM R V
  root : W
  all : ∀ f ∈ G, frc R V f root
theorem CM.of {G : List Fm} {c : Fm} (h : ¬ Val G c) : ∃ M : CM G, ¬ frc M.R M.V c M.root := by
  refine Classical.byContradiction fun hn => h fun W R V hm x hx => ?_
  refine Classical.byContradiction fun hc => hn ⟨⟨W, R, V, hm, x, hx⟩, hc⟩
section
variable {G : List Fm} {ι : Type} (M : ι → CM G)
def glR : Option ((i : ι) × (M i).W) → Option ((i : ι) × (M i).W) → Prop
  | none, none => True
  | none, some q => (M q.1).R (M q.1).root q.2
  | some _, none => False
  | some p, some q => ∃ h : p.1 = q.1, (M q.1).R (h ▸ p.2) q.2
def glV (s : Nat) : Option ((i : ι) × (M i).W) → Prop
  | none => .var s ∈ G
  | some q => (M q.1).V s q.2
theorem gl_km : KM (glR M) (glV M) := by
  refine ⟨fun x => ?_, fun x y z hxy hyz => ?_, fun s x y hxy hv => ?_⟩
  · cases x with
    | none => trivial
    | some p => exact ⟨rfl, (M p.1).km.rfl _⟩
  · cases x with
    | none =>
      cases z with
      | none => trivial
      | some r =>
        cases y with
        | none => exact hyz
        | some q =>
          obtain ⟨q1, q2⟩ := q
          obtain ⟨r1, r2⟩ := r
          obtain ⟨h, hr⟩ := hyz
          cases h
          exact (M q1).km.tra _ _ _ hxy hr
    | some p =>
      cases y with
      | none => exact hxy.elim
      | some q =>
        cases z with
        | none => exact hyz.elim
        | some r =>
          obtain ⟨p1, p2⟩ := p
          obtain ⟨q1, q2⟩ := q
          obtain ⟨r1, r2⟩ := r
          obtain ⟨h, hr⟩ := hyz
          cases h
          obtain ⟨h', hr'⟩ := hxy
          cases h'
          exact ⟨rfl, (M p1).km.tra _ _ _ hr' hr⟩
  · cases x with
    | none =>
      cases y with
      | none => exact hv
      | some q => exact (M q.1).km.up s _ _ hxy ((M q.1).all _ hv)
    | some p =>
      cases y with
      | none => exact hxy.elim
      | some q =>
        obtain ⟨p1, p2⟩ := p
        obtain ⟨q1, q2⟩ := q
        obtain ⟨h, hr⟩ := hxy
        cases h
        exact (M p1).km.up s _ _ hr hv
theorem gl_frc : ∀ (f : Fm) (i : ι) (x : (M i).W), frc (glR M) (glV M) f (some ⟨i, x⟩) ↔ frc (M i).R (M i).V f x
  | .var s, i, x => Iff.rfl
  | .fls, i, x => Iff.rfl
  | .bin .and a b, i, x => by simp only [frc]; rw [gl_frc a i x, gl_frc b i x]
  | .bin .or a b, i, x => by simp only [frc]; rw [gl_frc a i x, gl_frc b i x]
  | .bin .imp a b, i, x => by
    simp only [frc]
    constructor
    · intro h y hxy ha
      exact (gl_frc b i y).1 (h (some ⟨i, y⟩) ⟨rfl, hxy⟩ ((gl_frc a i y).2 ha))
    · intro h y hxy ha
      cases y with
      | none => exact hxy.elim
      | some q =>
        obtain ⟨j, z⟩ := q
        obtain ⟨hh, hr⟩ := hxy
        cases hh
        exact (gl_frc b i z).2 (h z hr ((gl_frc a i z).1 ha))
  | .un _ _, i, x => Iff.rfl
end
/-- nothing on the left can be taken apart without a choice -/
def Irr (G : List Fm) : Prop := ∀ f ∈ G, (∃ s, f = .var s) ∨ (∃ s b, f = .bin .imp (.var s) b ∧ .var s ∉ G) ∨ ∃ x y b, f = .bin .imp (.bin .imp x y) b
/-- what has to be refuted at once -/
def Tgt (G : List Fm) (c t : Fm) : Prop := (∃ x y b, .bin .imp (.bin .imp x y) b ∈ G ∧ t = .bin .imp x y) ∨ ∃ a b, c = .bin .or a b ∧ (t = a ∨ t = b)
theorem irr_no {G : List Fm} {c : Fm} (hG : Irr G) (hc : (∃ s, c = .var s ∧ .var s ∉ G) ∨ c = .fls ∨ ∃ a b, c = .bin .or a b) (ht : ∀ t, Tgt G c t → ¬ Val G t) : ¬ Val G c := by
  have hM : ∀ i : {t // Tgt G c t}, ∃ M : CM G, ¬ frc M.R M.V i.1 M.root := fun i => CM.of (ht i.1 i.2)
  let M : {t // Tgt G c t} → CM G := fun i => (hM i).choose
  have hMn : ∀ i, ¬ frc (M i).R (M i).V i.1 (M i).root := fun i => (hM i).choose_spec
  have hup : ∀ (f : Fm) (i : {t // Tgt G c t}) (x : (M i).W), glR M none (some ⟨i, x⟩) → f ∈ G → frc (glR M) (glV M) f (some ⟨i, x⟩) := fun f i x hx hf => (gl_frc M f i x).2 (frc_up (M i).km f _ _ hx ((M i).all f hf))
  have hroot : ∀ i : {t // Tgt G c t}, glR M none (some ⟨i, (M i).root⟩) := fun i => (M i).km.rfl _
  have hnot : ∀ i : {t // Tgt G c t}, ¬ frc (glR M) (glV M) i.1 none := fun i h => hMn i ((gl_frc M i.1 i _).1 (frc_up (gl_km M) i.1 _ _ (hroot i) h))
  intro hv
  have hall : ∀ f ∈ G, frc (glR M) (glV M) f none := fun f hf => by
    rcases hG f hf with ⟨s, rfl⟩ | ⟨s, b, rfl, hs⟩ | ⟨x, y, b, rfl⟩
    · exact hf
    · intro z hz hz2
      cases z with
      | none => exact absurd hz2 hs
      | some q => exact hup _ q.1 q.2 hz hf (some q) ((gl_km M).rfl _) hz2
    · intro z hz hz2
      cases z with
      | none => exact absurd hz2 (hnot ⟨_, .inl ⟨x, y, b, hf, rfl⟩⟩)
      | some q => exact hup _ q.1 q.2 hz hf (some q) ((gl_km M).rfl _) hz2
  have h := hv _ _ _ (gl_km M) none hall
  rcases hc with ⟨s, rfl, hs⟩ | rfl | ⟨a, b, rfl⟩
  · exact hs h
  · exact h
  · rcases h with h | h
    · exact hnot ⟨a, .inr ⟨a, b, rfl, .inl rfl⟩⟩ h
    · exact hnot ⟨b, .inr ⟨a, b, rfl, .inr rfl⟩⟩ h
/-- a choice on the left -/
def Cho (G : List Fm) (c : Fm) : Prop := ∃ x y b R, .bin .imp (.bin .imp x y) b ∈ G ∧ Mem1 G (.bin .imp (.bin .imp x y) b) R ∧ Val ([.bin .imp y b] ++ R) (.bin .imp x y) ∧ Val ([b] ++ R) c
theorem irr_val {G : List Fm} {c : Fm} (hG : Irr G) (hc : (∃ s, c = .var s ∧ .var s ∉ G) ∨ c = .fls ∨ ∃ a b, c = .bin .or a b)
    (hno : ∀ x y b, .bin .imp (.bin .imp x y) b ∈ G → ∃ R, Mem1 G (.bin .imp (.bin .imp x y) b) R ∧ ¬ (Val ([.bin .imp y b] ++ R) (.bin .imp x y) ∧ Val ([b] ++ R) c)) (hor : ∀ a b, c = .bin .or a b → ¬ Val G a ∧ ¬ Val G b) : ¬ Val G c := fun hv => by
  refine irr_no hG hc (fun t ht hvt => ?_) hv
  rcases ht with ⟨x, y, b, hf, rfl⟩ | ⟨a, b, rfl, rfl | rfl⟩
  · obtain ⟨R, hR, hn⟩ := hno x y b hf
    exact hn ⟨Val.ii1 hR hvt, Val.ii2 hR hv⟩
  · exact (hor _ _ rfl).1 hvt
  · exact (hor _ _ rfl).2 hvt
/-- a measure that falls at every premise of every rule -/
def sw : Fm → Nat
  | .var _ => 1
  | .fls => 1
  | .bin .and a b => (sw a + 1) * (sw b + 2)
  | .bin .or a b => sw a + sw b + 2
  | .bin .imp a b => (sw a + 1) * (sw b + 1)
  | .un _ _ => 1
def swL : List Fm → Nat
  | [] => 0
  | f :: l => sw f + swL l
theorem sw_pos : ∀ f : Fm, 1 ≤ sw f
  | .var _ => Nat.le_refl _
  | .fls => Nat.le_refl _
  | .bin .and a b => Nat.mul_pos (by omega) (by omega)
  | .bin .or a b => by show 1 ≤ sw a + sw b + 2; omega
  | .bin .imp a b => Nat.mul_pos (by omega) (by omega)
  | .un _ _ => Nat.le_refl _
theorem swL_len : ∀ l : List Fm, l.length ≤ swL l
  | [] => Nat.le_refl _
  | f :: l => by have := swL_len l; have := sw_pos f; simp only [List.length_cons, swL]; omega
theorem swL_app : ∀ l m : List Fm, swL (l ++ m) = swL l + swL m
  | [], m => by simp [swL]
  | f :: l, m => by have := swL_app l m; simp only [List.cons_append, swL, this]; omega
theorem mul2 (a b : Nat) : (a + 1) * (b + 1) = a * b + a + b + 1 := by rw [Nat.add_mul, Nat.mul_add]; omega
theorem mul3 (a b : Nat) : (a + 1) * (b + 2) = a * b + 2 * a + b + 2 := by rw [Nat.add_mul, Nat.mul_add]; omega
theorem sw_and (a b : Fm) : sw a + sw b < sw (.bin .and a b) := by show _ < (sw a + 1) * (sw b + 2); rw [mul3]; have := sw_pos a; omega
theorem sw_or1 (a b : Fm) : sw a < sw (.bin .or a b) := by show _ < sw a + sw b + 2; omega
theorem sw_or2 (a b : Fm) : sw b < sw (.bin .or a b) := by show _ < sw a + sw b + 2; omega
theorem sw_imp (a b : Fm) : sw a + sw b < sw (.bin .imp a b) := by show _ < (sw a + 1) * (sw b + 1); rw [mul2]; omega
theorem sw_andimp (a b d : Fm) : sw (.bin .imp a (.bin .imp b d)) < sw (.bin .imp (.bin .and a b) d) := by
  show (sw a + 1) * ((sw b + 1) * (sw d + 1) + 1) < ((sw a + 1) * (sw b + 2) + 1) * (sw d + 1)
  have e1 : (sw a + 1) * ((sw b + 1) * (sw d + 1) + 1) = (sw a + 1) * ((sw b + 1) * (sw d + 1)) + (sw a + 1) := by rw [Nat.mul_add, Nat.mul_one]
  have e2 : ((sw a + 1) * (sw b + 2) + 1) * (sw d + 1) = (sw a + 1) * ((sw b + 1) * (sw d + 1)) + (sw a + 1) * (sw d + 1) + (sw d + 1) := by
    rw [Nat.add_mul, Nat.one_mul, show sw b + 2 = (sw b + 1) + 1 from rfl, Nat.mul_add (sw a + 1), Nat.mul_one, Nat.add_mul, Nat.mul_assoc]
  rw [e1, e2]
  have h : sw a + 1 ≤ (sw a + 1) * (sw d + 1) := Nat.le_mul_of_pos_right _ (Nat.succ_pos _)
  omega
theorem sw_orimp (a b d : Fm) : sw (.bin .imp a d) + sw (.bin .imp b d) < sw (.bin .imp (.bin .or a b) d) := by
  show (sw a + 1) * (sw d + 1) + (sw b + 1) * (sw d + 1) < (sw a + sw b + 2 + 1) * (sw d + 1)
  rw [← Nat.add_mul]
  exact Nat.mul_lt_mul_of_pos_right (by omega) (Nat.succ_pos _)
theorem sw_ii1 (x y b : Fm) : sw (.bin .imp y b) + sw (.bin .imp x y) < sw (.bin .imp (.bin .imp x y) b) := by
  show (sw y + 1) * (sw b + 1) + (sw x + 1) * (sw y + 1) < ((sw x + 1) * (sw y + 1) + 1) * (sw b + 1)
  have hx := sw_pos x
  have hb := sw_pos b
  obtain ⟨p, hp⟩ : ∃ p, (sw x + 1) * (sw y + 1) = p := ⟨_, rfl⟩
  have h1 : 2 * (sw y + 1) ≤ p := by rw [← hp]; exact Nat.mul_le_mul_right _ (by omega)
  have e0 : (p + 1) * (sw b + 1) = p * (sw b + 1) + (sw b + 1) := by rw [Nat.add_mul, Nat.one_mul]
  rw [hp, e0]
  have h2 : p * (sw b + 1) = p * sw b + p := by rw [Nat.mul_add, Nat.mul_one]
  have h3 : (sw y + 1) * (sw b + 1) ≤ p * sw b := by
    have h4 : (sw y + 1) * (sw b + 1) ≤ (sw y + 1) * (2 * sw b) := Nat.mul_le_mul_left _ (by omega)
    have h5 : (sw y + 1) * (2 * sw b) = 2 * (sw y + 1) * sw b := by rw [← Nat.mul_assoc, Nat.mul_comm (sw y + 1) 2]
    have h6 : 2 * (sw y + 1) * sw b ≤ p * sw b := Nat.mul_le_mul_right _ h1
    omega
  omega
def lvs : Fm → Nat
  | .bin _ a b => lvs a + lvs b
  | _ => 1
theorem sw_lvs : ∀ f : Fm, sw f + 2 ≤ 3 ^ lvs f
  | .var _ => by show 1 + 2 ≤ 3 ^ 1; decide
  | .fls => by show 1 + 2 ≤ 3 ^ 1; decide
  | .un _ _ => by show 1 + 2 ≤ 3 ^ 1; decide
  | .bin k a b => by
    have h1 := sw_lvs a
    have h2 := sw_lvs b
    have h3 : (sw a + 2) * (sw b + 2) ≤ 3 ^ lvs (.bin k a b) := by
      show _ ≤ 3 ^ (lvs a + lvs b)
      rw [Nat.pow_add]
      exact Nat.mul_le_mul h1 h2
    have h4 : (sw a + 2) * (sw b + 2) = sw a * sw b + 2 * sw a + 2 * sw b + 4 := by rw [Nat.add_mul, Nat.mul_add, Nat.mul_add]; omega
    rw [h4] at h3
    refine Nat.le_trans ?_ h3
    cases k
    · show (sw a + 1) * (sw b + 2) + 2 ≤ _; rw [mul3]; omega
    · show sw a + sw b + 2 + 2 ≤ _; omega
    · show (sw a + 1) * (sw b + 1) + 2 ≤ _; rw [mul2]; omega
theorem lvs_len : ∀ f : Fm, 2 * lvs f ≤ (enc f).length + 1
  | .var _ => by simp [lvs, enc]
  | .fls => by simp [lvs, enc]
  | .un _ a => by have := enc_pos a; simp only [lvs, enc, List.length_cons]; omega
  | .bin _ a b => by have h1 := lvs_len a; have h2 := lvs_len b; simp only [lvs, enc, List.length_cons, List.length_append]; omega
theorem sw_small {f : Fm} (h : (enc f).length ≤ 20) : sw f ≤ 59049 := by
  have h1 := sw_lvs f
  have h2 := lvs_len f
  have h3 : 3 ^ lvs f ≤ 3 ^ 10 := Nat.pow_le_pow_right (by decide) (by omega)
  have h4 : (3 : Nat) ^ 10 = 59049 := by decide
  omega
end Go.Proofs.YtaigiopoogbbbaaGreat
