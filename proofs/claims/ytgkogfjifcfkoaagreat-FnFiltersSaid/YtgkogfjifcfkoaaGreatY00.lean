/- Words for memory, over any program: a slice value that reads as a list in a world, a slice that the call itself made (owned), how both are carried over later worlds, and the laws on append and make in these words. -/
import Derived.Test.YtgkogfjifcfkoaaGreatRows
import Derived.WalkKit
import Derived.Maps.AppendAt
import Derived.Deep.AppendLies
import Derived.Deep.Draws
import Derived.Lib.Hide
namespace Go.Proofs.YtgkogfjifcfkoaaGreat
open Go.RowKit

/-- the walk stands still at what lies behind this word -/
theorem stopHere {p : Prop} (h : Hid p) : p := h
theorem goHere {p : Prop} (h : p) : Hid p := h

/-- How one element of a slice lies in cells. -/
structure Cod (α : Type) where
  size : Nat
  cells : α → List Value
  len : ∀ x, (cells x).length = size
  pos : 0 < size
  one : ∀ x, ∀ u ∈ cells x, u.oneCell' = true

def cI : Cod Int := ⟨1, fun x => [.int .i64 x], fun _ => rfl, by decide, fun _ u hu => by simp at hu; subst hu; rfl⟩
/-- a slice header -/
structure Hd where
  a : Option Addr
  n : Nat
  c : Nat
def Hd.val (h : Hd) : Value := .slice h.a h.n h.c
def cH : Cod Hd := ⟨1, fun x => [x.val], fun _ => rfl, by decide, fun _ u hu => by simp at hu; subst hu; rfl⟩

def flat {α : Type} (K : Cod α) (xs : List α) : List Value := xs.flatMap K.cells
section
variable {α : Type} {K : Cod α}
theorem flat_nil : flat K [] = [] := rfl
theorem flat_cons (x : α) (xs : List α) : flat K (x :: xs) = K.cells x ++ flat K xs := rfl
theorem flat_append (xs ys : List α) : flat K (xs ++ ys) = flat K xs ++ flat K ys := by simp [flat]
theorem flat_length (xs : List α) : (flat K xs).length = xs.length * K.size := by
  induction xs with
  | nil => simp [flat]
  | cons x xs ih => rw [flat_cons, List.length_append, ih, K.len, List.length_cons, Nat.add_mul, Nat.one_mul, Nat.add_comm]
theorem flat_get (xs : List α) (i : Nat) (hi : i < xs.length) (j : Nat) (hj : j < K.size) : (flat K xs)[i * K.size + j]? = (K.cells xs[i])[j]? := by
  induction xs generalizing i with
  | nil => simp at hi
  | cons x xs ih =>
    rw [flat_cons]
    cases i with
    | zero => rw [List.getElem?_append_left (by rw [K.len]; omega)]; simp
    | succ i =>
      rw [List.getElem?_append_right (by rw [K.len, Nat.succ_mul]; omega), K.len]
      have := ih i (by simpa using hi)
      rw [show (i + 1) * K.size + j - K.size = i * K.size + j from by rw [Nat.succ_mul]; omega]
      simpa using this
theorem flat_drop (xs : List α) (k : Nat) : flat K (xs.drop k) = (flat K xs).drop (k * K.size) := by
  induction xs generalizing k with
  | nil => simp [flat]
  | cons x xs ih =>
    cases k with
    | zero => simp
    | succ k =>
      rw [List.drop_succ_cons, ih, flat_cons, List.drop_append, List.drop_of_length_le (show (K.cells x).length ≤ (k + 1) * K.size from by rw [K.len, Nat.succ_mul]; omega), List.nil_append, K.len]
      congr 1
      rw [Nat.succ_mul]; omega
theorem flat_take (xs : List α) (k : Nat) : flat K (xs.take k) = (flat K xs).take (k * K.size) := by
  induction xs generalizing k with
  | nil => simp [flat]
  | cons x xs ih =>
    cases k with
    | zero => simp [flat]
    | succ k =>
      rw [List.take_succ_cons, flat_cons, ih, flat_cons, List.take_append, List.take_of_length_le (show (K.cells x).length ≤ (k + 1) * K.size from by rw [K.len, Nat.succ_mul]; omega), K.len]
      rw [show (k + 1) * K.size - K.size = k * K.size from by rw [Nat.succ_mul]; omega]
theorem flat_one (xs : List α) : ∀ u ∈ flat K xs, u.oneCell' = true := by
  intro u hu
  rw [flat, List.mem_flatMap] at hu
  obtain ⟨x, _, hu⟩ := hu
  exact K.one x u hu
end
theorem flat_cI (xs : List Int) : flat cI xs = xs.map (Value.int .i64) := by
  induction xs with
  | nil => rfl
  | cons x xs ih => rw [flat_cons, ih]; rfl

theorem add_lit (b o j : Nat) : (⟨b, o, none⟩ : Addr).add j = ⟨b, o + j, none⟩ := by unfold Addr.add; split <;> simp_all

/-- The cells that begin at the address A read as 'cells'. -/
def Rd (w : World) (A : Option Addr) (cells : List Value) : Prop :=
  cells = [] ∨ ∃ b o, A = some ⟨b, o, none⟩ ∧ b < w.heap.size ∧ ∀ k u, cells[k]? = some u → w.cell? ⟨b, o + k, none⟩ = some u

section
variable {w w' : World} {A : Option Addr} {cells : List Value}
theorem Rd.nil : Rd w A [] := .inl rfl
theorem Rd.keep (h : Rd w A cells) (hs : w.heap.size ≤ w'.heap.size) (hk : ∀ p : Addr, p.block < w.heap.size → w'.cell? p = w.cell? p) : Rd w' A cells := by
  rcases h with h | ⟨b, o, hA, hb, hc⟩
  · exact .inl h
  · exact .inr ⟨b, o, hA, by omega, fun k u hu => (hk _ hb).trans (hc k u hu)⟩
theorem Rd.below (h : Rd w A cells) (hb : Below w.heap.size w w') : Rd w' A cells := h.keep hb.size fun _ hp => hb.cell hp
theorem Rd.drewN (h : Rd w A cells) (q : Nat) : Rd (w.drewN q) A cells := h
theorem Rd.drop (h : Rd w A cells) (k : Nat) : Rd w (A.map (·.add k)) (cells.drop k) := by
  rcases h with h | ⟨b, o, rfl, hb, hc⟩
  · exact .inl (by simp [h])
  · refine .inr ⟨b, o + k, by simp [add_lit], hb, fun j u hu => ?_⟩
    rw [List.getElem?_drop] at hu
    have := hc _ _ hu
    rwa [← Nat.add_assoc] at this
theorem Rd.take (h : Rd w A cells) (k : Nat) : Rd w A (cells.take k) := by
  rcases h with h | ⟨b, o, rfl, hb, hc⟩
  · exact .inl (by simp [h])
  · refine .inr ⟨b, o, rfl, hb, fun j u hu => ?_⟩
    rw [List.getElem?_take] at hu
    split at hu
    · exact hc _ _ hu
    · cases hu
theorem Rd.of_own {base : Nat} {e : TypeId} {size n c : Nat} (h : w.ownsRow base e size (.slice A n c) n cells) : Rd w A cells := by
  rcases h.2 with ⟨hv, h0⟩ | ⟨g, cap, cur, hv, hb, hg, _⟩
  · left
    have := h.1
    rw [h0, Nat.zero_mul] at this
    exact List.eq_nil_of_length_eq_zero this
  · right
    injection hv with hA _ _
    subst hA
    refine ⟨g, 0, rfl, (Array.getElem?_eq_some_iff.1 hg).1, fun k u hu => ?_⟩
    have := h.cells (g := g) rfl k u hu
    rwa [add_lit] at this
end

/-- The slice value v reads in w as the list xs, its elements laid by K. -/
def Sl {α : Type} (K : Cod α) (w : World) (v : Value) (xs : List α) : Prop :=
  ∃ A c, v = .slice A xs.length c ∧ xs.length ≤ c ∧ c ≤ 9223372036854775807 ∧ Rd w A (flat K xs)
/-- The slice value v is one that was made from block B on (elements of type e), and reads as xs. -/
def Ow {α : Type} (K : Cod α) (e : TypeId) (B : Nat) (w : World) (v : Value) (xs : List α) : Prop :=
  (∃ A c, v = .slice A xs.length c ∧ xs.length ≤ c ∧ c ≤ 9223372036854775807) ∧ w.ownsRow B e K.size v xs.length (flat K xs)

section
variable {α : Type} {K : Cod α} {w w' : World} {v : Value} {xs : List α} {e : TypeId} {B : Nat}
theorem Sl.below (h : Sl K w v xs) (hb : Below w.heap.size w w') : Sl K w' v xs := by
  obtain ⟨A, c, hv, hc, hm, hr⟩ := h
  exact ⟨A, c, hv, hc, hm, hr.below hb⟩
theorem Sl.drewN (h : Sl K w v xs) (q : Nat) : Sl K (w.drewN q) v xs := h
theorem Sl.keep (h : Sl K w v xs) (hs : w.heap.size ≤ w'.heap.size) (hk : ∀ p : Addr, p.block < w.heap.size → w'.cell? p = w.cell? p) : Sl K w' v xs := by
  obtain ⟨A, c, hv, hc, hm, hr⟩ := h
  exact ⟨A, c, hv, hc, hm, hr.keep hs hk⟩
theorem Sl.opn (h : Sl K w v xs) : ∃ A c, v = .slice A xs.length c := by
  obtain ⟨A, c, hv, _⟩ := h
  exact ⟨A, c, hv⟩
theorem Ow.opn (h : Ow K e B w v xs) : ∃ A c, v = .slice A xs.length c := by
  obtain ⟨⟨A, c, hv, _⟩, _⟩ := h
  exact ⟨A, c, hv⟩
theorem Sl.none_nil {n c : Nat} (h : Sl K w (.slice none n c) xs) : xs = [] := by
  obtain ⟨A, c, hv, _, _, hr⟩ := h
  injection hv with hA _ _
  subst hA
  rcases hr with hr | ⟨b, o, hA, _⟩
  · have := flat_length (K := K) xs
    rw [hr, List.length_nil] at this
    have hp := K.pos
    cases xs with
    | nil => rfl
    | cons x xs => simp [Nat.add_mul] at this; omega
  · cases hA
theorem Sl.alloc (h : Sl K w v xs) (o : Obj) : Sl K (w.alloc o) v xs := h.below ((Below.refl _ _).alloc (Nat.le_refl _) o)
theorem Sl.nil : Sl K w (.slice none 0 0) [] := ⟨none, 0, rfl, Nat.le_refl _, by omega, .inl rfl⟩
/-- an element's cells -/
theorem Sl.cell {A : Option Addr} {n c : Nat} (h : Sl K w (.slice A n c) xs) {k : Nat} (hk : k < xs.length) :
    ∃ b o, A = some ⟨b, o, none⟩ ∧ b < w.heap.size ∧ ∀ j u, (K.cells xs[k])[j]? = some u → w.cell? ⟨b, o + k * K.size + j, none⟩ = some u := by
  obtain ⟨A', c', hv, hc, hm, hr⟩ := h
  injection hv with hA _ _
  subst hA
  have hp := K.pos
  have hmul : k * K.size + 1 ≤ xs.length * K.size := by
    have := Nat.mul_le_mul_right K.size (show k + 1 ≤ xs.length from hk)
    rw [Nat.add_mul, Nat.one_mul] at this
    omega
  rcases hr with h | ⟨b, o, hA, hb, hcell⟩
  · have := flat_length (K := K) xs
    rw [h, List.length_nil] at this
    omega
  · refine ⟨b, o, hA, hb, fun j u hu => ?_⟩
    have hj : j < K.size := by
      rw [← K.len xs[k]]
      exact (List.getElem?_eq_some_iff.1 hu).1
    have := hcell (k * K.size + j) u (by rw [flat_get xs k hk j hj]; exact hu)
    rwa [← Nat.add_assoc] at this
theorem Ow.sl (h : Ow K e B w v xs) : Sl K w v xs := by
  obtain ⟨⟨A, c, rfl, hc, hm⟩, ho⟩ := h
  exact ⟨A, c, rfl, hc, hm, Rd.of_own ho⟩
theorem Ow.mono {B' : Nat} (h : Ow K e B w v xs) (hB : B' ≤ B) : Ow K e B' w v xs := by
  obtain ⟨hv, h1, h2⟩ := h
  refine ⟨hv, h1, ?_⟩
  rcases h2 with h2 | ⟨g, cap, cur, hv, hb, r⟩
  · exact .inl h2
  · exact .inr ⟨g, cap, cur, hv, by omega, r⟩
theorem Ow.below (h : Ow K e B w v xs) (hb : Below w.heap.size w w') : Ow K e B w' v xs := by
  obtain ⟨hv, h1, h2⟩ := h
  refine ⟨hv, h1, ?_⟩
  rcases h2 with h2 | ⟨g, cap, cur, hv, hB, hg, r⟩
  · exact .inl h2
  · exact .inr ⟨g, cap, cur, hv, hB, (hb.block g (Array.getElem?_eq_some_iff.1 hg).1).trans hg, r⟩
theorem Ow.drewN (h : Ow K e B w v xs) (q : Nat) : Ow K e B (w.drewN q) v xs := h
theorem Ow.alloc (h : Ow K e B w v xs) (o : Obj) : Ow K e B (w.alloc o) v xs := ⟨h.1, h.2.alloc o⟩
theorem Ow.setBelow (h : Ow K e B w v xs) {p : Addr} (hp : p.block < B) (u : Value) : Ow K e B (w.setCell p u) v xs := ⟨h.1, ownsRow_setCell_below h.2 hp u⟩
theorem Ow.nil (B : Nat) (w : World) : Ow K e B w (.slice none 0 0) ([] : List α) := ⟨⟨none, 0, rfl, Nat.le_refl _, by omega⟩, by simpa [flat] using World.ownsRow_nil w B e K.size⟩
/-- a slice literal, just made -/
theorem Ow.lit (xs : List α) {cs : Array Value} {n : Nat} (hn : n = xs.length) (hcs : flat K xs = cs.toList) (hB : B ≤ w.heap.size) (hm : xs.length ≤ 1073741824 := by simp <;> omega) :
    Ow K e B (w.alloc (.cells cs e)) (.slice (some ⟨w.heap.size, 0, none⟩) n n) xs := by
  subst hn
  refine ⟨⟨_, _, rfl, Nat.le_refl _, by omega⟩, ?_⟩
  rw [hcs]
  exact World.ownsRow_lit w cs xs.length hB (by simp only [maxLen]; omega) (by rw [← Array.length_toList, ← hcs, flat_length])
/-- the same, its block's number spelled otherwise -/
theorem Ow.lit' (xs : List α) {cs : Array Value} {n g : Nat} (hg : g = w.heap.size) (hn : n = xs.length) (hcs : flat K xs = cs.toList) (hB : B ≤ g) (hm : xs.length ≤ 1073741824 := by simp <;> omega) :
    Ow K e B (w.alloc (.cells cs e)) (.slice (some ⟨g, 0, none⟩) n n) xs := by
  subst hg
  exact Ow.lit xs hn hcs hB hm
theorem Ow.kept {row : Option Nat} (h : Ow K e B w v xs) (hg : w.grownBy w' row) (hne : v.ownBlock = none ∨ v.ownBlock ≠ row) : Ow K e B w' v xs := ⟨h.1, h.2.kept hg hne⟩
/-- the block of an owned slice -/
theorem Ow.block (h : Ow K e B w v xs) : ∀ k, v.ownBlock = some k → B ≤ k ∧ k < w.heap.size := h.2.lt
/-- an owned slice that is not empty, opened -/
theorem Ow.form (h : Ow K e B w v xs) (hn : 0 < xs.length) : ∃ g c, v = .slice (some ⟨g, 0, none⟩) xs.length c ∧ B ≤ g ∧ g < w.heap.size ∧
    (∀ j, w.frozen? ⟨g, j, none⟩ = false) ∧ ∀ j, j < xs.length * K.size → w.cell? ⟨g, j, none⟩ = (flat K xs)[j]? := by
  obtain ⟨g, c, hv, hB, hg⟩ := h.2.form hn
  subst hv
  exact ⟨g, c, rfl, hB, hg, fun j => h.2.frozenAt j, fun j hj => h.2.cellAt j hj⟩
theorem Ow.head {A : Option Addr} {n c : Nat} (h : Ow K e B w (.slice A n c) xs) (hn : 0 < xs.length) : ∃ g, A = some ⟨g, 0, none⟩ ∧ B ≤ g ∧ g < w.heap.size := by
  obtain ⟨g, c', hv, h1, h2, _⟩ := h.form hn
  injection hv with hA _ _
  exact ⟨g, hA, h1, h2⟩
/-- what an owned slice's cell holds, and that it may be written -/
theorem Ow.at1 {g n c : Nat} (h1 : K.size = 1) (h : Ow K e B w (.slice (some ⟨g, 0, none⟩) n c) xs) {j : Nat} (hj : j < xs.length) {u : Value} (hu : K.cells xs[j] = [u]) :
    w.cell? ⟨g, j, none⟩ = some u ∧ w.frozen? ⟨g, j, none⟩ = false ∧ B ≤ g ∧ g < w.heap.size := by
  obtain ⟨⟨A, c', hv, hc, hm⟩, ho⟩ := h
  injection hv with hA hn hc'
  subst hn
  have hlt := ho.lt g rfl
  refine ⟨?_, ho.frozenAt j, hlt.1, hlt.2⟩
  rw [ho.cellAt j (by rw [h1]; omega)]
  have := flat_get (K := K) xs j hj 0 (by omega)
  rw [h1] at this
  simp only [Nat.mul_one, Nat.add_zero] at this
  rw [this, hu]
  rfl
/-- a store into an owned slice of one-cell elements -/
theorem Ow.set1 {g n c : Nat} {j : Nat} {x : α} {u : Value} (h : Ow K e B w (.slice (some ⟨g, 0, none⟩) n c) xs) (h1 : K.size = 1) (hx : K.cells x = [u]) (hj : j < xs.length) :
    Ow K e B (w.setCell ⟨g, j, none⟩ u) (.slice (some ⟨g, 0, none⟩) n c) (xs.set j x) := by
  obtain ⟨⟨A, c', hv, hc, hm⟩, ho⟩ := h
  injection hv with hA hn hc'
  subst hA; subst hc'; subst hn
  refine ⟨⟨_, c, by rw [List.length_set], by rw [List.length_set]; exact hc, hm⟩, ?_⟩
  have := (ho.stored j u).1
  rw [List.length_set]
  rw [show flat K (xs.set j x) = (flat K xs).set j u from ?_]
  · exact this
  · apply List.ext_getElem?
    intro i
    by_cases hi : i < xs.length
    · have e1 := flat_get (K := K) (xs.set j x) i (by simpa using hi) 0 (by omega)
      have e2 := flat_get (K := K) xs i hi 0 (by omega)
      rw [h1] at e1 e2
      simp only [Nat.mul_one, Nat.add_zero] at e1 e2
      rw [e1, List.getElem?_set, List.getElem_set]
      by_cases hij : j = i
      · subst hij
        rw [if_pos rfl, if_pos rfl, hx, if_pos (by rw [flat_length, h1]; omega)]
        rfl
      · rw [if_neg hij, if_neg hij, e2]
    · rw [List.getElem?_eq_none (by rw [flat_length, h1, List.length_set]; omega), List.getElem?_eq_none (by rw [List.length_set, flat_length, h1]; omega)]
end


/-- The element type's row of the table, and the slice type over it. -/
structure Ty (P : Program) (t e : TypeId) (z : Value) (size bytes : Nat) : Prop where
  under : P.underlying t = some (.slice e)
  info : ∃ i, P.info? e = some i ∧ i.zero = some z ∧ i.size = size ∧ i.bytes = bytes
  cells : z.cells.size = size
  pos : 0 < bytes
theorem Ty.mk' {P : Program} {t e : TypeId} {z : Value} {size bytes : Nat} (h1 : P.underlying t = some (.slice e))
    (h2 : (P.info? e).map (fun i => (i.zero, i.size, i.bytes)) = some (some z, size, bytes)) (h3 : z.cells.size = size) (h4 : 0 < bytes) : Ty P t e z size bytes :=
  ⟨h1, info_parts h2, h3, h4⟩

section
variable {P : Program} {α : Type} {K : Cod α}
/-- append onto an owned slice, the source nil, empty or not -/
theorem ap_any (w : World) {ops : Array Oper} {rest : List Oper} {o : Oper} {a : Act} {Q : Exit → Act → World → Prop} {t e : TypeId} {z : Value} {bytes : Nat}
    (T : Ty P t e z K.size bytes) (hgd : o.guard = none) (s x : Operand)
    (ho : o.op = .call { callee := .builtin .append, args := #[s, x], argTypes := #[t, t] })
    {B : Nat} {v : Value} {xs : List α} (hs : a.eval s = v) (hown : Ow K e B w v xs)
    {A : Option Addr} {m c : Nat} {news : List α} (hx : a.eval x = .slice A m c) (hm : m = news.length) (hr : Rd w A (flat K news))
    (hbytes : (xs.length + news.length) * bytes ≤ 140737488355328) (hbase : B ≤ w.heap.size)
    (h : ∀ v' w', Ow K e B w' v' (xs ++ news) → w.grownBy w' v.ownBlock → Below B w w' → (v'.ownBlock = v.ownBlock ∨ v'.ownBlock = some w.heap.size) → wpList P ops Q rest (a.put o.dst v') w') :
    wpList P ops Q (o :: rest) a w := by
  subst hm
  obtain ⟨i, hi, hz, hsize, hby⟩ := T.info
  have hpos := T.pos
  have hmax : xs.length + news.length ≤ 140737488355328 := Nat.le_trans (Nat.le_mul_of_pos_right _ hpos) hbytes
  obtain ⟨⟨A0, c0, rfl, hc0, hm0⟩, ho'⟩ := hown
  refine wpList_plain hgd fun K' hK => ?_
  have main : ∃ v' w', (Builtin.append_ #[t, t] o.type #[.slice A0 xs.length c0, .slice A news.length c]).run P w = .ok v' w' ∧ w'.ownsRow B e K.size v' (xs.length + news.length) (flat K xs ++ flat K news) ∧ w.grownBy w' (Value.ownBlock (.slice A0 xs.length c0)) ∧
      (v'.ownBlock = (Value.ownBlock (.slice A0 xs.length c0)) ∨ v'.ownBlock = some w.heap.size) ∧ ∃ A' c', v' = .slice A' (xs.length + news.length) c' ∧ xs.length + news.length ≤ c' ∧ c' ≤ 9223372036854775807 := by
    have shape : ∀ v' w', World.ownsRow w' B e K.size v' (xs.length + news.length) (flat K xs ++ flat K news) → ∃ A' c', v' = .slice A' (xs.length + news.length) c' ∧ xs.length + news.length ≤ c' ∧ c' ≤ 9223372036854775807 := by
      intro v' w' h
      rcases h.2 with ⟨h1, h2⟩ | ⟨g, cap, cur, hv, _, _, hnc, hcm, _⟩
      · exact ⟨none, 0, by rw [h1, h2], by omega, by omega⟩
      · exact ⟨_, cap, hv, hnc, by simp only [maxLen] at hcm; omega⟩
    by_cases hn : news = []
    · subst hn
      refine ⟨.slice A0 xs.length c0, w, ?_, by simpa [flat] using ho', World.grownBy.refl w _, .inl rfl, A0, c0, by simp, by simpa using hc0, hm0⟩
      rcases ho'.2 with ⟨h1, h2⟩ | ⟨g, cap, cur, hv, _, _, hnc, _⟩
      · rw [h1]
        rcases A with _ | A <;> simp [Builtin.append_, run_underlying T.under, sizeOf, typeInfo, hi, Builtin.lenOf, Builtin.firstCells, loadCells, loadCellsFrom]
      · injection hv with hA _ hcc
        subst hA; subst hcc
        rcases A with _ | A <;> simp [Builtin.append_, run_underlying T.under, sizeOf, typeInfo, hi, Builtin.lenOf, Builtin.firstCells, loadCells, loadCellsFrom, hnc, storeCells]
    · rcases hr with hr | ⟨b, off, rfl, _, hcell⟩
      · have := flat_length (K := K) news
        rw [hr, List.length_nil] at this
        have h0 : 0 < news.length := by cases news with | nil => exact absurd rfl hn | cons _ _ => simp
        have := Nat.mul_pos h0 K.pos
        omega
      · obtain ⟨v', w', hrun, h2, h3, _, h5⟩ := run_append_own_at (P := P) w B t o.type e i z K.size bytes T.under hi hz hsize hby T.cells K.pos _ _ _ ho' ⟨b, off, none⟩ news.length c (flat K news) (flat_length news)
          (fun j u hu => by rw [add_lit]; exact hcell j u hu) (flat_one news) (by simp only [maxLen]; omega) hbytes hbase
        exact ⟨v', w', hrun, h2, h3, h5, shape v' w' h2⟩
  obtain ⟨v', w', hrun, h2, h3, h4, A', c', hv', hn', hm'⟩ := main
  unfold Oper.wp execOp
  simp only [ho, resolve, invoke, builtin, Sem.run_bind, Sem.run_pure, Result.andThen_ok, List.map_toArray, List.map_cons, List.map_nil, hs, hx, hrun]
  refine hK _ _ (h v' w' ⟨⟨A', c', by rw [hv', List.length_append], by simpa using hn', hm'⟩, by rw [flat_append, List.length_append]; exact h2⟩ h3 ?_ h4)
  refine (Below.refl _ _).grown h3 hbase fun k hk => (ho'.lt k hk).1

/-- append of what a slice reads -/
theorem ap_sl (w : World) {ops : Array Oper} {rest : List Oper} {o : Oper} {a : Act} {Q : Exit → Act → World → Prop} {t e : TypeId} {z : Value} {bytes : Nat}
    (T : Ty P t e z K.size bytes) (hgd : o.guard = none) (s x : Operand)
    (ho : o.op = .call { callee := .builtin .append, args := #[s, x], argTypes := #[t, t] })
    {B : Nat} {v u : Value} {xs news : List α} (hs : a.eval s = v) (hx : a.eval x = u) (hown : Ow K e B w v xs) (hr : Sl K w u news)
    (hbytes : (xs.length + news.length) * bytes ≤ 140737488355328) (hbase : B ≤ w.heap.size)
    (h : ∀ v' w', Ow K e B w' v' (xs ++ news) → w.grownBy w' v.ownBlock → Below B w w' → (v'.ownBlock = v.ownBlock ∨ v'.ownBlock = some w.heap.size) → wpList P ops Q rest (a.put o.dst v') w') :
    wpList P ops Q (o :: rest) a w := by
  obtain ⟨A, c, rfl, _, _, hr⟩ := hr
  exact ap_any w T hgd s x ho hs hown hx rfl hr hbytes hbase h

/-- append of one element, which the walk has just laid in a block of its own -/
theorem ap_one (w : World) {ops : Array Oper} {rest : List Oper} {o : Oper} {a : Act} {Q : Exit → Act → World → Prop} {t e : TypeId} {z : Value} {bytes : Nat}
    (T : Ty P t e z K.size bytes) (hgd : o.guard = none) (s x : Operand)
    (ho : o.op = .call { callee := .builtin .append, args := #[s, x], argTypes := #[t, t] })
    {B : Nat} {v : Value} {xs : List α} (hs : a.eval s = v) (hown : Ow K e B w v xs) (y : α) {cs : Array Value} (hcs : K.cells y = cs.toList)
    (hx : a.eval x = .slice (some ⟨w.heap.size, 0, none⟩) 1 1)
    (hbytes : (xs.length + 1) * bytes ≤ 140737488355328) (hbase : B ≤ w.heap.size)
    (h : ∀ v' w', Ow K e B w' v' (xs ++ [y]) → (w.alloc (.cells cs e)).grownBy w' v.ownBlock → Below B w w' → (v'.ownBlock = v.ownBlock ∨ v'.ownBlock = some (w.heap.size + 1)) → wpList P ops Q rest (a.put o.dst v') w') :
    wpList P ops Q (o :: rest) a (w.alloc (.cells cs e)) := by
  have hr : Rd (w.alloc (.cells cs e)) (some ⟨w.heap.size, 0, none⟩) (flat K [y]) := by
    refine .inr ⟨w.heap.size, 0, rfl, by simp, fun k u hu => ?_⟩
    rw [flat_cons, flat_nil, List.append_nil, hcs] at hu
    have := cell_of_row (w.alloc (.cells cs e)) w.heap.size k cs e (0, 0) (heap_alloc_new w _)
    rw [Nat.zero_add, this]
    simpa using hu
  refine ap_any (w.alloc (.cells cs e)) T hgd s x ho hs (hown.alloc _) hx rfl hr hbytes (by simp; omega) fun v' w' h1 h2 h3 h4 => ?_
  exact h v' w' h1 h2 (((Below.refl _ _).alloc hbase _).trans h3) (by simpa using h4)

/-- make([]T, n) -/
theorem mk_full (w : World) {ops : Array Oper} {rest : List Oper} {o : Oper} {a : Act} {Q : Exit → Act → World → Prop} {t e : TypeId} {z : Value} {bytes : Nat}
    (T : Ty P t e z K.size bytes) (hgd : o.guard = none) (l c : Operand) (ho : o.op = Op.makeSlice t l c) (B : Nat) (n : Nat) (y : α) (hy : z.cells.toList = K.cells y)
    (hl : a.eval l = .int .i64 (n : Int)) (hc : a.eval c = .int .i64 (n : Int)) (hn : bytes * n ≤ 281474976710656) (hb : B ≤ w.heap.size)
    (h : ∀ w', Ow K e B w' (.slice (some ⟨w.heap.size, 0, none⟩) n n) (List.replicate n y) → w.grownBy w' none → Below w.heap.size w w' → w.heap.size < w'.heap.size → wpList P ops Q rest (a.put o.dst (.slice (some ⟨w.heap.size, 0, none⟩) n n)) w') :
    wpList P ops Q (o :: rest) a w := by
  obtain ⟨i, hi, hz, hsize, hby⟩ := T.info
  have hpos := T.pos
  have hmax : n ≤ 281474976710656 := Nat.le_trans (Nat.le_mul_of_pos_left _ hpos) hn
  refine wpList_make_full w hgd l c t ho B e i z K.size T.under hi hz hsize .i64 .i64 n n n hl hc rfl rfl (by rw [hby]; exact hn) (by simp only [maxLen]; omega) hb fun w' hown hg => ?_
  refine h w' ⟨⟨_, n, by rw [List.length_replicate], by simp, by omega⟩, ?_⟩ hg ((Below.refl _ _).grown hg (Nat.le_refl _) (by simp)) ?_
  · rw [List.length_replicate]
    refine (show (madeCells z.cells (n * K.size)).toList = flat K (List.replicate n y) from ?_) ▸ hown
    apply List.ext_getElem?
    intro j
    by_cases hj : j < n * K.size
    · have hq : j / K.size < n := Nat.div_lt_of_lt_mul (by rw [Nat.mul_comm]; exact hj)
      have hr : j % K.size < K.size := Nat.mod_lt _ K.pos
      have h2 := flat_get (K := K) (List.replicate n y) (j / K.size) (by simpa using hq) (j % K.size) hr
      rw [show j / K.size * K.size + j % K.size = j from by rw [Nat.mul_comm]; exact Nat.div_add_mod j K.size] at h2
      rw [h2, List.getElem_replicate, ← hy]
      have hlt : j % K.size < z.cells.size := by rw [T.cells]; exact hr
      have hlt2 : j % z.cells.size < z.cells.size := by rw [T.cells]; exact hr
      simp only [madeCells, Array.toList_map, Array.toList_range, List.getElem?_map, List.getElem?_range hj, Option.map_some, T.cells, Array.getElem?_toList]
      rw [Array.getElem!_eq_getD, Array.getD_eq_getD_getElem?, Array.getElem?_eq_getElem hlt]
      rfl
    · rw [List.getElem?_eq_none (by simpa [madeCells] using hj), List.getElem?_eq_none (by rw [flat_length]; simpa using hj)]
  · rcases hown.2 with ⟨h0, _⟩ | ⟨g, cap, cur, hv, _, hgg, _⟩
    · cases h0
    · injection hv with hA _ _
      injection hA with hA
      injection hA with hA _ _
      subst hA
      exact (Array.getElem?_eq_some_iff.1 hgg).1
end
/-- block g holds the cells cs -/
def Bk (w : World) (g : Nat) (cs : Array Value) : Prop := g < w.heap.size ∧ ∀ i, w.cell? ⟨g, i, none⟩ = cs[i]?
theorem Bk.new (w : World) (cs : Array Value) (e : TypeId) : Bk (w.alloc (.cells cs e)) w.heap.size cs :=
  ⟨by simp, fun i => cell_of_row _ w.heap.size i cs e (0, 0) (heap_alloc_new w (.cells cs e))⟩
theorem Bk.below {w w1 : World} {g : Nat} {cs : Array Value} (h : Bk w g cs) (hb : Below w.heap.size w w1) : Bk w1 g cs :=
  ⟨Nat.lt_of_lt_of_le h.1 hb.size, fun i => (hb.cell (p := ⟨g, i, none⟩) h.1).trans (h.2 i)⟩
theorem Bk.alloc {w : World} {g : Nat} {cs : Array Value} (h : Bk w g cs) (o : Obj) : Bk (w.alloc o) g cs := h.below ((Below.refl _ _).alloc (Nat.le_refl _) o)
theorem Bk.grown {w w1 : World} {g : Nat} {cs : Array Value} {row : Option Nat} (h : Bk w g cs) (hb : w.grownBy w1 row) (hne : some g ≠ row) : Bk w1 g cs :=
  ⟨Nat.lt_of_lt_of_le h.1 hb.size, fun i => (hb.cell_far ⟨g, i, none⟩ h.1 hne).trans (h.2 i)⟩
/-- what reads in a world reads behind a write to another block -/
theorem Sl.grown {α : Type} {K : Cod α} {w w1 : World} {v : Value} {xs : List α} {row : Option Nat} (h : Sl K w v xs) (hb : w.grownBy w1 row) (hne : v.ownBlock = none ∨ v.ownBlock ≠ row) : Sl K w1 v xs := by
  obtain ⟨A, c, rfl, hc, hm, hr⟩ := h
  refine ⟨A, c, rfl, hc, hm, ?_⟩
  rcases hr with hr | ⟨b, o, rfl, hlt, hcell⟩
  · exact .inl hr
  · refine .inr ⟨b, o, rfl, Nat.lt_of_lt_of_le hlt hb.size, fun k u hu => (hb.cell_far ⟨b, o + k, none⟩ hlt ?_).trans (hcell k u hu)⟩
    rcases hne with hne | hne
    · cases hne
    · exact hne
/-- what is owned from B on is not below B -/
theorem Ow.apart {α : Type} {K : Cod α} {e : TypeId} {B : Nat} {w : World} {v : Value} {xs : List α} (h : Ow K e B w v xs) {g : Nat} (hg : g < B ∨ w.heap.size ≤ g) : some g ≠ v.ownBlock := by
  intro he
  have := h.block g he.symm
  omega
theorem Ow.sep {α β : Type} {K : Cod α} {K' : Cod β} {e e' : TypeId} {B B' : Nat} {w w0 : World} {v v0 : Value} {xs : List α} {ys : List β} (h : Ow K e B w v xs) (h0 : Ow K' e' B' w0 v0 ys) (hB : w0.heap.size ≤ B) : v0.ownBlock = none ∨ v0.ownBlock ≠ v.ownBlock := by
  cases hv : v0.ownBlock with
  | none => exact .inl rfl
  | some k => exact .inr (h.apart (.inl (by have := (h0.block k hv).2; omega)))
theorem below_grown {w0 w w1 : World} {B : Nat} {row : Option Nat} (h : Below B w0 w) (hg : w.grownBy w1 row) (hB : B ≤ w.heap.size) (hr : ∀ k, row = some k → B ≤ k) : Below B w0 w1 := h.grown hg hB hr
/-- block g is just the cells cs of element type t, none frozen -/
def Blk (w : World) (g : Nat) (t : TypeId) (cs : Array Value) : Prop := w.heap[g]? = some (.cells cs t (0, 0))
section
variable {w w' : World} {g : Nat} {t : TypeId} {cs : Array Value}
theorem Blk.lt (h : Blk w g t cs) : g < w.heap.size := by
  rcases Nat.lt_or_ge g w.heap.size with hlt | hge
  · exact hlt
  · unfold Blk at h; rw [Array.getElem?_eq_none hge] at h; cases h
theorem Blk.cell (h : Blk w g t cs) (i : Nat) : w.cell? ⟨g, i, none⟩ = cs[i]? := cell_of_row w g i cs t (0, 0) h
theorem Blk.frozen (h : Blk w g t cs) (i : Nat) : w.frozen? ⟨g, i, none⟩ = false := by
  unfold Blk at h
  simp [World.frozen?, h]
theorem Blk.new (w : World) (t : TypeId) (cs : Array Value) : Blk (w.alloc (.cells cs t)) w.heap.size t cs := heap_alloc_new w _
theorem Blk.new' (w : World) (t : TypeId) (cs : Array Value) (hg : g = w.heap.size) : Blk (w.alloc (.cells cs t)) g t cs := by subst hg; exact heap_alloc_new w _
theorem Blk.drewN (h : Blk w g t cs) (n : Nat) : Blk (w.drewN n) g t cs := h
theorem Blk.alloc (h : Blk w g t cs) (o : Obj) : Blk (w.alloc o) g t cs := (Below.heap_alloc w o g h.lt).trans h
theorem Blk.set_ (h : Blk w g t cs) (i : Nat) (u : Value) : Blk (w.setCell ⟨g, i, none⟩ u) g t (cs.setIfInBounds i u) := by
  unfold Blk at h ⊢
  simp [World.setCell, Array.getElem?_modify, h]
theorem Blk.far (h : Blk w g t cs) {p : Addr} (hp : g ≠ p.block) (u : Value) : Blk (w.setCell p u) g t cs := (Below.heap_setCell w p u g hp).trans h
theorem Blk.below {B : Nat} (h : Blk w g t cs) (hb : Below B w w') (hg : g < B) : Blk w' g t cs := (hb.block g hg).trans h
theorem Blk.grown {row : Option Nat} (h : Blk w g t cs) (hb : w.grownBy w' row) (hg : some g ≠ row) : Blk w' g t cs := (hb.block g h.lt hg).trans h
end
theorem Ow.far {α : Type} {K : Cod α} {e : TypeId} {B : Nat} {w : World} {v : Value} {xs : List α} (h : Ow K e B w v xs) {p : Addr} (hp : v.ownBlock ≠ some p.block) (u : Value) : Ow K e B (w.setCell p u) v xs :=
  ⟨h.1, ownsRow_setCell_other h.2 hp u⟩
/-- a contract's last world, carried on -/
theorem bthen {w w1 w2 : World} (h : Below w.heap.size w w1) (k : Below w1.heap.size w1 w2) : Below w.heap.size w w2 := h.trans (k.mono h.size)
theorem grown_set {w w1 : World} {row : Option Nat} {g : Nat} (h : w.grownBy w1 row) (hr : row = some g) (o : Nat) (u : Value) : w.grownBy (w1.setCell ⟨g, o, none⟩ u) row :=
  h.trans ⟨rfl, rfl, rfl, by simp [World.setCell], fun i _ hne => Below.heap_setCell _ _ _ _ (fun e => hne (by rw [hr, e]))⟩
theorem grown_alloc {w w1 : World} {row : Option Nat} (o : Obj) (h : (w.alloc o).grownBy w1 row) : w.grownBy w1 row := (World.grownBy_alloc w o row).trans h
theorem grown_drewN {w w1 : World} {row : Option Nat} (h : w.grownBy w1 row) (n : Nat) : w.grownBy (w1.drewN n) row := ⟨h.os, h.tape, h.output, h.size, h.block⟩
theorem below_drewN {B : Nat} {a w : World} (h : Below B a w) (n : Nat) : Below B a (w.drewN n) := ⟨h.os, h.tape, h.output, h.size, h.block⟩
end Go.Proofs.YtgkogfjifcfkoaaGreat
