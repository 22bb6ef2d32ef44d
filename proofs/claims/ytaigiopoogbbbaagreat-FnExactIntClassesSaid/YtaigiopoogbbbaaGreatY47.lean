/- Joined of several texts. -/
import Derived.Test.YtaigiopoogbbbaaGreatY46
import Derived.StillTailTactics
import Derived.Deep.RegionHeld3
import Derived.Deep.RegionLaw
namespace Go.Proofs.YtaigiopoogbbbaaGreat
/- Joined of several texts: 07a, 07b, 07c. -/
open Go.RowKit
set_option linter.unusedVariables false
set_option linter.unusedSimpArgs false
/- Contracts of chapter 7, of the program: truths, image, forth, back. -/
/- Contracts of chapter 7, of the program: back, linkOf. -/
/- Contracts of chapter 7, of the program: the closures of bounded; append as a step of a region that draws. -/
section
variable {P : Program} {α : Type} {K : Cod α}
theorem wp_any (w : World) {o : Oper} {a : Act} {KK : Act → World → Prop} {Q : Exit → Act → World → Prop} {t e : TypeId} {z : Value} {bytes : Nat}
    (T : Ty P t e z K.size bytes) (s x : Operand)
    (ho : o.op = .call { callee := .builtin .append, args := #[s, x], argTypes := #[t, t] })
    {B : Nat} {v : Value} {xs : List α} (hs : a.eval s = v) (hown : Ow K e B w v xs)
    {A : Option Addr} {m c : Nat} {news : List α} (hx : a.eval x = .slice A m c) (hm : m = news.length) (hr : Rd w A (flat K news))
    (hbytes : (xs.length + news.length) * bytes ≤ 140737488355328) (hbase : B ≤ w.heap.size)
    (h : ∀ v' w', Ow K e B w' v' (xs ++ news) → w.grownBy w' v.ownBlock → Below B w w' → (v'.ownBlock = v.ownBlock ∨ v'.ownBlock = some w.heap.size) → KK (a.put o.dst v') w') :
    o.wp P a w KK Q := by
  subst hm
  obtain ⟨i, hi, hz, hsize, hby⟩ := T.info
  have hpos := T.pos
  have hmax : xs.length + news.length ≤ 140737488355328 := Nat.le_trans (Nat.le_mul_of_pos_right _ hpos) hbytes
  obtain ⟨⟨A0, c0, rfl, hc0, hm0⟩, ho'⟩ := hown
  have main : ∃ v' w', (Builtin.append_ #[t, t] o.type #[.slice A0 xs.length c0, .slice A news.length c]).run P w = .ok v' w' ∧ w'.ownsRow B e K.size v' (xs.length + news.length) (flat K xs ++ flat K news) ∧ w.grownBy w' (Value.ownBlock (.slice A0 xs.length c0)) ∧
      (v'.ownBlock = (Value.ownBlock (.slice A0 xs.length c0)) ∨ v'.ownBlock = some w.heap.size) ∧ ∃ A' c', v' = .slice A' (xs.length + news.length) c' ∧ xs.length + news.length ≤ c' ∧ c' ≤ 9223372036854775807 := by
    have shape : ∀ v' w', World.ownsRow w' B e K.size v' (xs.length + news.length) (flat K xs ++ flat K news) → ∃ A' c', v' = .slice A' (xs.length + news.length) c' ∧ xs.length + news.length ≤ c' ∧ c' ≤ 9223372036854775807 := by
      intro v' w' h
      rcases h.2 with ⟨h1, h2⟩ | ⟨g, cap, cur, hv, _, _, hnc, hcm, _⟩
      · exact ⟨none, 0, by rw [h1, h2], by omega, by omega⟩
      · exact ⟨_, cap, hv, hnc, by simp only [maxLen] at hcm; omega⟩
    by_cases hn : news = []
    · subst hn
      refine ⟨.slice A0 xs.length c0, w, ?_, by simpa [flat] using ho', World.grownBy.refl w _, .inl rfl, A0, c0, by simp, by simpa using hc0, hm0⟩
      rcases ho'.2 with ⟨h1, h2⟩ | ⟨g, cap, cur, hv, _, _, hnc, _⟩
      · rw [h1]
        rcases A with _ | A <;> simp [Builtin.append_, run_underlying T.under, sizeOf, typeInfo, hi, Builtin.lenOf, Builtin.firstCells, loadCells, loadCellsFrom]
      · injection hv with hA _ hcc
        subst hA; subst hcc
        rcases A with _ | A <;> simp [Builtin.append_, run_underlying T.under, sizeOf, typeInfo, hi, Builtin.lenOf, Builtin.firstCells, loadCells, loadCellsFrom, hnc, storeCells]
    · rcases hr with hr | ⟨b, off, rfl, _, hcell⟩
      · have := flat_length (K := K) news
        rw [hr, List.length_nil] at this
        have h0 : 0 < news.length := by cases news with | nil => exact absurd rfl hn | cons _ _ => simp
        have := Nat.mul_pos h0 K.pos
        omega
      · obtain ⟨v', w', hrun, h2, h3, _, h5⟩ := run_append_own_at (P := P) w B t o.type e i z K.size bytes T.under hi hz hsize hby T.cells K.pos _ _ _ ho' ⟨b, off, none⟩ news.length c (flat K news) (flat_length news)
          (fun j u hu => by rw [add_lit]; exact hcell j u hu) (flat_one news) (by simp only [maxLen]; omega) hbytes hbase
        exact ⟨v', w', hrun, h2, h3, h5, shape v' w' h2⟩
  obtain ⟨v', w', hrun, h2, h3, h4, A', c', hv', hn', hm'⟩ := main
  unfold Oper.wp execOp
  simp only [ho, resolve, invoke, builtin, Sem.run_bind, Sem.run_pure, Result.andThen_ok, List.map_toArray, List.map_cons, List.map_nil, hs, hx, hrun]
  refine (h v' w' ⟨⟨A', c', by rw [hv', List.length_append], by simpa using hn', hm'⟩, by rw [flat_append, List.length_append]; exact h2⟩ h3 ?_ h4)
  refine (Below.refl _ _).grown h3 hbase fun k hk => (ho'.lt k hk).1


/-- append of one element, made just now, as a step of a region that draws its order -/
theorem step_one (w : World) {ops : Array Oper} {o : Oper} {a : Act} {KK : Act → World → Prop} {Q : Exit → Act → World → Prop} {E : Prop} {t e : TypeId} {z : Value} {bytes : Nat}
    (T : Ty P t e z K.size bytes) (hgd : o.guard = none) (s x : Operand)
    (ho : o.op = .call { callee := .builtin .append, args := #[s, x], argTypes := #[t, t] })
    {B : Nat} {v : Value} {xs : List α} (hs : a.eval s = v) (hown : Ow K e B w v xs) (y : α) {cs : Array Value} (hcs : K.cells y = cs.toList)
    (hx : a.eval x = .slice (some ⟨w.heap.size, 0, none⟩) 1 1)
    (hbytes : (xs.length + 1) * bytes ≤ 140737488355328) (hbase : B ≤ w.heap.size)
    (h : ∀ v' w', Ow K e B w' v' (xs ++ [y]) → (w.alloc (.cells cs e)).grownBy w' v.ownBlock → Below B w w' → (v'.ownBlock = v.ownBlock ∨ v'.ownBlock = some (w.heap.size + 1)) → KK (a.put o.dst v') w') :
    if Region.wanted o (yielded ops a.tmps) = true then Oper.wp P o a (w.alloc (.cells cs e)) KK Q else E := by
  have hw : Region.wanted o (yielded ops a.tmps) = true := by simp [Region.wanted, hgd]
  rw [if_pos hw]
  have hr : Rd (w.alloc (.cells cs e)) (some ⟨w.heap.size, 0, none⟩) (flat K [y]) := by
    refine .inr ⟨w.heap.size, 0, rfl, by simp, fun k u hu => ?_⟩
    rw [flat_cons, flat_nil, List.append_nil, hcs] at hu
    have := cell_of_row (w.alloc (.cells cs e)) w.heap.size k cs e (0, 0) (heap_alloc_new w _)
    rw [Nat.zero_add, this]
    simpa using hu
  refine wp_any (w.alloc (.cells cs e)) T s x ho hs (hown.alloc _) hx rfl hr hbytes (by simp; omega) fun v' w' h1 h2 h3 h4 => ?_
  exact h v' w' h1 h2 (((Below.refl _ _).alloc hbase _).trans h3) (by simpa using h4)
end
/- Joined of several texts: 07d, 07e, 07h, 07i. -/
open Go.RowKit
set_option linter.unusedVariables false
set_option linter.unusedSimpArgs false
/- Contracts of chapter 7, of the reference: start and step. -/
theorem lnk_succ (n k : Nat) (p : Nat → Nat → Bool) : li (lnk (n + 1) k p) = li (lnk n k p) ++ [((msk (p n) k : Nat) : Int)] := by
  unfold lnk li
  rw [List.range_succ, List.map_append, List.map_append]
  rfl
/- Contracts of chapter 7, of the reference: bounded. -/
/-- a row of headers that the call owns, each of which reads a list of numbers; no block of them is R -/
def OwI (B : Nat) (R : Option Nat) (w : World) (v : Value) (xss : List (List Int)) : Prop :=
  ∃ hs : List Hd, Ow cH 24 B w v hs ∧ (∀ r, R = some r → v.ownBlock ≠ some r ∧ r < w.heap.size) ∧ hs.length = xss.length ∧
    ∀ i (a : i < hs.length) (b : i < xss.length), Sl cI w hs[i].val xss[i] ∧ (hs[i].val.ownBlock = none ∨ (hs[i].val.ownBlock ≠ v.ownBlock ∧ ∀ k, hs[i].val.ownBlock = some k → k < w.heap.size ∧ R ≠ some k))
theorem OwI.sl2 {B : Nat} {R : Option Nat} {w : World} {v : Value} {xss : List (List Int)} (h : OwI B R w v xss) : Sl2 cI w v xss := by
  obtain ⟨hs, h1, -, h2, h3⟩ := h
  exact ⟨hs, h1.sl, h2, fun i a b => (h3 i a b).1⟩
theorem OwI.below {B : Nat} {R : Option Nat} {w w' : World} {v : Value} {xss : List (List Int)} (h : OwI B R w v xss) (hb : Below w.heap.size w w') : OwI B R w' v xss := by
  obtain ⟨hs, h1, h0, h2, h3⟩ := h
  refine ⟨hs, h1.below hb, fun r hr => ⟨(h0 r hr).1, Nat.lt_of_lt_of_le (h0 r hr).2 hb.size⟩, h2, fun i a b => ⟨(h3 i a b).1.below hb, ?_⟩⟩
  rcases (h3 i a b).2 with h | ⟨h, k⟩
  · exact .inl h
  · exact .inr ⟨h, fun j hj => ⟨Nat.lt_of_lt_of_le (k j hj).1 hb.size, (k j hj).2⟩⟩
theorem OwI.one {B B2 : Nat} {w : World} {A : Option Addr} {n c : Nat} {xs : List Int} (hu : Ow cI 2 B2 w (.slice A n c) xs) (hB : B ≤ w.heap.size) :
    OwI B none (w.alloc (.cells #[.slice A n c] 24)) (.slice (some ⟨w.heap.size, 0, none⟩) 1 1) [xs] := by
  refine ⟨[⟨A, n, c⟩], Ow.lit (K := cH) [⟨A, n, c⟩] rfl rfl hB, fun r hr => (by cases hr), rfl, fun i a b => ?_⟩
  have hi : i = 0 := by simp at a; omega
  subst hi
  refine ⟨hu.sl.alloc _, ?_⟩
  show (Value.slice A n c).ownBlock = none ∨ ((Value.slice A n c).ownBlock ≠ _ ∧ ∀ k, (Value.slice A n c).ownBlock = some k → _)
  cases hq : (Value.slice A n c).ownBlock with
  | none => exact .inl rfl
  | some k =>
    have := (hu.block k hq).2
    refine .inr ⟨?_, fun j hj => ?_⟩
    · intro e
      have e' : k = w.heap.size := by injection e
      omega
    · have e' : k = j := by injection hj
      exact ⟨by simp; omega, by simp⟩
/-- the block R is made behind -/
theorem OwI.mark {B : Nat} {w w' : World} {v : Value} {xss : List (List Int)} (h : OwI B none w v xss) (hb : Below w.heap.size w w') (r : Nat) (hr : w.heap.size ≤ r) (hr2 : r < w'.heap.size) : OwI B (some r) w' v xss := by
  obtain ⟨hs, h1, h0, h2, h3⟩ := h
  have hv := h1.block
  refine ⟨hs, h1.below hb, fun r' hr' => ?_, h2, fun i a b => ⟨(h3 i a b).1.below hb, ?_⟩⟩
  · injection hr' with e
    subst e
    refine ⟨fun e => ?_, hr2⟩
    have := (hv _ e).2
    omega
  · rcases (h3 i a b).2 with h | ⟨h, k⟩
    · exact .inl h
    · refine .inr ⟨h, fun j hj => ⟨Nat.lt_of_lt_of_le (k j hj).1 hb.size, fun e => ?_⟩⟩
      injection e with e
      have := (k j hj).1
      omega
theorem OwI.push {B : Nat} {R : Option Nat} {w : World} {v : Value} {xss : List (List Int)} {A : Option Addr} {n c : Nat} {xs : List Int} {B2 : Nat}
    (h : OwI B R w v xss) (hu : Ow cI 2 B2 w (.slice A n c) xs) (hB : ∀ k, v.ownBlock = some k → k < B2) (hR : ∀ r, R = some r → r < B2) :
    ∃ hs : List Hd, Ow cH 24 B w v hs ∧ hs.length = xss.length ∧
      ∀ w' v', Ow cH 24 B w' v' (hs ++ [⟨A, n, c⟩]) → (w.alloc (.cells #[.slice A n c] 24)).grownBy w' v.ownBlock →
        (v'.ownBlock = v.ownBlock ∨ v'.ownBlock = some (w.heap.size + 1)) → OwI B R w' v' (xss ++ [xs]) := by
  obtain ⟨hs, h1, h0, h2, h3⟩ := h
  have hlt : ∀ k, (Value.slice A n c).ownBlock = some k → B2 ≤ k ∧ k < w.heap.size := hu.block
  refine ⟨hs, h1, h2, fun w' v' ho hg hat => ?_⟩
  have hsz : w.heap.size + 1 ≤ w'.heap.size := by have := hg.size; simp at this; omega
  have key : ∀ (u : Value) (ys : List Int), Sl cI w u ys → (u.ownBlock = none ∨ (u.ownBlock ≠ v.ownBlock ∧ ∀ k, u.ownBlock = some k → k < w.heap.size ∧ R ≠ some k)) →
      Sl cI w' u ys ∧ (u.ownBlock = none ∨ (u.ownBlock ≠ v'.ownBlock ∧ ∀ k, u.ownBlock = some k → k < w'.heap.size ∧ R ≠ some k)) := by
    intro u ys hu hn
    refine ⟨(hu.alloc _).grown hg (hn.imp id And.left), ?_⟩
    rcases hn with hn | ⟨hn, hk⟩
    · exact .inl hn
    · refine .inr ⟨?_, fun k e => ⟨by have := (hk k e).1; omega, (hk k e).2⟩⟩
      rcases hat with e | e
      · rw [e]; exact hn
      · rw [e]; intro e2; have := (hk _ e2).1; omega
  refine ⟨hs ++ [⟨A, n, c⟩], ho, fun r hr => ⟨?_, by have := (h0 r hr).2; omega⟩, by simp [h2], fun i a b => ?_⟩
  · rcases hat with e | e
    · rw [e]; exact (h0 r hr).1
    · rw [e]; intro e2; injection e2 with e2; have := (h0 r hr).2; omega
  by_cases hi : i < hs.length
  · rw [List.getElem_append_left hi, List.getElem_append_left (by omega)]
    exact key _ _ (h3 i hi (by omega)).1 (h3 i hi (by omega)).2
  · have e : i = hs.length := by simp at a; omega
    subst e
    have e2 : (xss ++ [xs])[hs.length] = xs := by
      rw [List.getElem_append_right (by omega)]; simp [h2]
    rw [e2]
    have e3 : (hs ++ [(⟨A, n, c⟩ : Hd)])[hs.length] = ⟨A, n, c⟩ := by simp
    rw [e3]
    refine key _ _ hu.sl ?_
    show (Value.slice A n c).ownBlock = none ∨ ((Value.slice A n c).ownBlock ≠ _ ∧ ∀ k, (Value.slice A n c).ownBlock = some k → _)
    cases hq : (Value.slice A n c).ownBlock with
    | none => exact .inl rfl
    | some k =>
      have hk := hlt k hq
      refine .inr ⟨?_, fun j hj => ?_⟩
      · intro e
        have := hB k e.symm
        omega
      · have e' : k = j := by injection hj
        subst e'
        exact ⟨hk.2, fun e => by have := hR k e; omega⟩
def bdL (ns us ks ts : List Nat) (K : Nat) : List (List Int) := (List.range (K + 1)).map fun i => li (bnd ns us ks ts i)
theorem bdL_length (ns us ks ts : List Nat) (K : Nat) : (bdL ns us ks ts K).length = K + 1 := by simp [bdL]
theorem bdL_succ (ns us ks ts : List Nat) (K : Nat) : bdL ns us ks ts (K + 1) = bdL ns us ks ts K ++ [li (bnd ns us ks ts (K + 1))] := by
  unfold bdL
  rw [List.range_succ (n := K + 1), List.map_append]
  rfl
theorem bdL_get (ns us ks ts : List Nat) (K i : Nat) (h : i < (bdL ns us ks ts K).length) : (bdL ns us ks ts K)[i] = li (bnd ns us ks ts i) := by
  simp [bdL]
theorem bnd_lt8 {ns us ks ts : List Nat} (h : ks.length ≤ 8) (k : Nat) : ∀ x ∈ bnd ns us ks ts k, x < 2 ^ 8 := fun x hx =>
  Nat.lt_of_lt_of_le (bnd_lt ns us ks ts k x hx) (Nat.pow_le_pow_right (by decide) h)
/- Contracts of chapter 7, of the program: bounded, bisimilar. -/
theorem OwI.setR {B R : Nat} {w : World} {v : Value} {xss : List (List Int)} (h : OwI B (some R) w v xss) (i : Nat) (u : Value) : OwI B (some R) (w.setCell ⟨R, i, none⟩ u) v xss := by
  obtain ⟨hs, h1, h0, h2, h3⟩ := h
  have hsz : (w.setCell ⟨R, i, none⟩ u).heap.size = w.heap.size := by simp
  refine ⟨hs, h1.far (h0 R rfl).1 u, fun r hr => ⟨(h0 r hr).1, by rw [hsz]; exact (h0 r hr).2⟩, h2, fun i a b => ⟨(h3 i a b).1.grown (grown_set (World.grownBy.refl w (some R)) rfl _ _) ?_, ?_⟩⟩
  · rcases (h3 i a b).2 with h | ⟨-, k⟩
    · exact .inl h
    · refine .inr fun e => ?_
      exact (k R e).2 rfl
  · rcases (h3 i a b).2 with h | ⟨h, k⟩
    · exact .inl h
    · exact .inr ⟨h, fun j hj => by rw [hsz]; exact k j hj⟩
theorem OwI.form {B : Nat} {R : Option Nat} {w : World} {v : Value} {xss : List (List Int)} (h : OwI B R w v xss) (hn : 0 < xss.length) : ∃ g c, v = .slice (some ⟨g, 0, none⟩) xss.length c := by
  obtain ⟨hs, h1, -, h2, -⟩ := h
  obtain ⟨g, c, hv, -⟩ := h1.form (by omega)
  exact ⟨g, c, by rw [hv, h2]⟩
theorem OwI.at_ {B : Nat} {R : Option Nat} {w : World} {g n c : Nat} {xss : List (List Int)} (h : OwI B R w (.slice (some ⟨g, 0, none⟩) n c) xss) {k : Nat} (hk : k < xss.length) :
    ∃ A m d, w.cell? ⟨g, k, none⟩ = some (.slice A m d) ∧ Sl cI w (.slice A m d) xss[k] ∧ g < w.heap.size := by
  obtain ⟨b, o, A, m, d, hA, hb, hc, hs⟩ := h.sl2.at_ hk
  injection hA with hA
  injection hA with e1 e2
  subst e1
  subst e2
  exact ⟨A, m, d, by simpa using hc, hs, hb⟩
end Go.Proofs.YtaigiopoogbbbaaGreat
