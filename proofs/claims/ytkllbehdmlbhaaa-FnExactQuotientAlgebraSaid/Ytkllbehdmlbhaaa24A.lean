/- Contracts of posets and valuations, of both sides: isPoset, isUpset, isValuation, l16Is, l17Is, IsValuation. Written by gen24A.py. -/
import Derived.Test.YtkllbehdmlbhaaaPF
import Derived.Test.YtkllbehdmlbhaaaSB
namespace Go.Proofs.Ytkllbehdmlbhaaa
open Go.RowKit
set_option linter.unusedVariables false
set_option linter.unusedSimpArgs false
def nL (L : List Int) : List Nat := L.map Int.toNat
theorem nL_li (ns : List Nat) : nL (li ns) = ns := by
  unfold nL li
  rw [List.map_map]
  conv => rhs; rw [← List.map_id ns]
  exact List.map_congr_left fun x _ => by simp
/-- a poset -/
def pfl (ns : List Nat) : Bool := (flp ns 0 && flp ns 2) && flp ns 8
def psOk (n : Int) (L : List Int) : Bool := frOk n L && pfl (nL L)
theorem psOk_iff {n : Int} {L : List Int} (h : psOk n L = true) : ∃ ns : List Nat, L = li ns ∧ n = ns.length ∧ RelN ns ∧ pfl ns = true := by
  unfold psOk at h
  rw [Bool.and_eq_true] at h
  obtain ⟨ns, rfl, rfl, hr⟩ := frOk_iff h.1
  exact ⟨ns, rfl, rfl, hr, by have := h.2; rwa [nL_li] at this⟩
/-- an upset -/
def upn (ns : List Nat) (m : Int) : Bool := mkOk ns.length m && decide (img ns m.toNat = m.toNat)
def vlOk (n : Int) (L V : List Int) : Bool := psOk n L && (decide (V.length = 6) && V.all fun m => upn (nL L) m)
theorem vlOk_iff {n : Int} {L V : List Int} (h : vlOk n L V = true) : ∃ ns us : List Nat, L = li ns ∧ n = ns.length ∧ V = li us ∧ MdN ns us ∧ pfl ns = true ∧ ∀ u ∈ us, img ns u = u := by
  unfold vlOk at h
  rw [Bool.and_eq_true, Bool.and_eq_true, decide_eq_true_eq, List.all_eq_true] at h
  obtain ⟨h1, h2, h3⟩ := h
  obtain ⟨ns, rfl, rfl, hr, hp⟩ := psOk_iff h1
  rw [nL_li] at h3
  have h4 : ∀ m ∈ V, 0 ≤ m ∧ m.toNat < 2 ^ ns.length ∧ img ns m.toNat = m.toNat := fun m hm => by
    have := h3 m hm
    unfold upn at this
    rw [Bool.and_eq_true, decide_eq_true_eq] at this
    exact ⟨(mkOk_nat this.1).1, (mkOk_nat this.1).2, this.2⟩
  have hv := li_of fun m hm => (h4 m hm).1
  refine ⟨ns, V.map Int.toNat, rfl, rfl, hv, ⟨hr, by simpa using h2, ?_⟩, hp, ?_⟩
  · intro x hx
    obtain ⟨m, hm, rfl⟩ := List.mem_map.1 hx
    exact (h4 m hm).2.1
  · intro x hx
    obtain ⟨m, hm, rfl⟩ := List.mem_map.1 hx
    exact (h4 m hm).2.2
theorem eqI (a b : Nat) : (((a : Nat) : Int) == (b : Int)) = decide (a = b) := by
  rw [Bool.eq_iff_iff, beq_iff_eq, decide_eq_true_eq]; omega
theorem neI (a b : Nat) : (((a : Nat) : Int) != (b : Int)) = !decide (a = b) := by
  unfold bne; rw [eqI]
theorem frOk_li {ns : List Nat} (h : RelN ns) : frOk ns.length (li ns) = true := by
  have h1 := h.1
  unfold frOk
  rw [inR_true (by omega) (by omega), Bool.true_and, li_length, decide_eq_true rfl, Bool.true_and]
  unfold relOk
  rw [List.all_eq_true]
  intro m hm
  unfold li at hm
  obtain ⟨a, ha, rfl⟩ := List.mem_map.1 hm
  rw [li_length, mkOk_small (by omega)]
  refine inR_true (Int.natCast_nonneg _) ?_
  rw [Int.toNat_natCast, full_cast (by omega)]
  have := h.2 a ha
  exact Int.ofNat_le.2 (by omega)
theorem Bk.new1 (w : World) (cs : Array Value) (e : TypeId) (o : Obj) : Bk ((w.alloc (.cells cs e)).alloc o) w.heap.size cs := (Bk.new w cs e).alloc o
end Go.Proofs.Ytkllbehdmlbhaaa
