/- Joined of several texts: 07a, 07b, 07c. -/
import Derived.Test.YtgcoohlakcncbaaGreatSA
import Derived.StillTailTactics
import Derived.Deep.RegionHeld3
namespace Go.Proofs.YtgcoohlakcncbaaGreat
open Go.RowKit
set_option linter.unusedVariables false
set_option linter.unusedSimpArgs false
/- Contracts of chapter 7, of the program: truths, image, forth, back. -/
/- Contracts of chapter 7, of the program: back, linkOf. -/
/- Contracts of chapter 7, of the program: the closures of bounded; append as a step of a region that draws. -/
section
variable {P : Program} {α : Type} {K : Cod α}
theorem wp_any (w : World) {o : Oper} {a : Act} {KK : Act → World → Prop} {Q : Exit → Act → World → Prop} {t e : TypeId} {z : Value} {bytes : Nat}
    (T : Ty P t e z K.size bytes) (s x : Operand)
    (ho : o.op = .call { callee := .builtin .append, args := #[s, x], argTypes := #[t, t] })
    {B : Nat} {v : Value} {xs : List α} (hs : a.eval s = v) (hown : Ow K e B w v xs)
    {A : Option Addr} {m c : Nat} {news : List α} (hx : a.eval x = .slice A m c) (hm : m = news.length) (hr : Rd w A (flat K news))
    (hbytes : (xs.length + news.length) * bytes ≤ 140737488355328) (hbase : B ≤ w.heap.size)
    (h : ∀ v' w', Ow K e B w' v' (xs ++ news) → w.grownBy w' v.ownBlock → Below B w w' → (v'.ownBlock = v.ownBlock ∨ v'.ownBlock = some w.heap.size) → KK (a.put o.dst v') w') :
    o.wp P a w KK Q := by
  subst hm
  obtain ⟨i, hi, hz, hsize, hby⟩ := T.info
  have hpos := T.pos
  have hmax : xs.length + news.length ≤ 140737488355328 := Nat.le_trans (Nat.le_mul_of_pos_right _ hpos) hbytes
  obtain ⟨⟨A0, c0, rfl, hc0, hm0⟩, ho'⟩ := hown
  have main : ∃ v' w', (Builtin.append_ #[t, t] o.type #[.slice A0 xs.length c0, .slice A news.length c]).run P w = .ok v' w' ∧ w'.ownsRow B e K.size v' (xs.length + news.length) (flat K xs ++ flat K news) ∧ w.grownBy w' (Value.ownBlock (.slice A0 xs.length c0)) ∧
      (v'.ownBlock = (Value.ownBlock (.slice A0 xs.length c0)) ∨ v'.ownBlock = some w.heap.size) ∧ ∃ A' c', v' = .slice A' (xs.length + news.length) c' ∧ xs.length + news.length ≤ c' ∧ c' ≤ 9223372036854775807 := by
    have shape : ∀ v' w', World.ownsRow w' B e K.size v' (xs.length + news.length) (flat K xs ++ flat K news) → ∃ A' c', v' = .slice A' (xs.length + news.length) c' ∧ xs.length + news.length ≤ c' ∧ c' ≤ 9223372036854775807 := by
      intro v' w' h
      rcases h.2 with ⟨h1, h2⟩ | ⟨g, cap, cur, hv, _, _, hnc, hcm, _⟩
      · exact ⟨none, 0, by rw [h1, h2], by omega, by omega⟩
      · exact ⟨_, cap, hv, hnc, by simp only [maxLen] at hcm; omega⟩
    by_cases hn : news = []
    · subst hn
      refine ⟨.slice A0 xs.length c0, w, ?_, by simpa [flat] using ho', World.grownBy.refl w _, .inl rfl, A0, c0, by simp, by simpa using hc0, hm0⟩
      rcases ho'.2 with ⟨h1, h2⟩ | ⟨g, cap, cur, hv, _, _, hnc, _⟩
      · rw [h1]
        rcases A with _ | A <;> simp [Builtin.append_, run_underlying T.under, sizeOf, typeInfo, hi, Builtin.lenOf, Builtin.firstCells, loadCells, loadCellsFrom]
      · injection hv with hA _ hcc
        subst hA; subst hcc
        rcases A with _ | A <;> simp [Builtin.append_, run_underlying T.under, sizeOf, typeInfo, hi, Builtin.lenOf, Builtin.firstCells, loadCells, loadCellsFrom, hnc, storeCells]
    · rcases hr with hr | ⟨b, off, rfl, _, hcell⟩
      · have := flat_length (K := K) news
        rw [hr, List.length_nil] at this
        have h0 : 0 < news.length := by cases news with | nil => exact absurd rfl hn | cons _ _ => simp
        have := Nat.mul_pos h0 K.pos
        omega
      · obtain ⟨v', w', hrun, h2, h3, _, h5⟩ := run_append_own_at (P := P) w B t o.type e i z K.size bytes T.under hi hz hsize hby T.cells K.pos _ _ _ ho' ⟨b, off, none⟩ news.length c (flat K news) (flat_length news)
          (fun j u hu => by rw [add_lit]; exact hcell j u hu) (flat_one news) (by simp only [maxLen]; omega) hbytes hbase
        exact ⟨v', w', hrun, h2, h3, h5, shape v' w' h2⟩
  obtain ⟨v', w', hrun, h2, h3, h4, A', c', hv', hn', hm'⟩ := main
  unfold Oper.wp execOp
  simp only [ho, resolve, invoke, builtin, Sem.run_bind, Sem.run_pure, Result.andThen_ok, List.map_toArray, List.map_cons, List.map_nil, hs, hx, hrun]
  refine (h v' w' ⟨⟨A', c', by rw [hv', List.length_append], by simpa using hn', hm'⟩, by rw [flat_append, List.length_append]; exact h2⟩ h3 ?_ h4)
  refine (Below.refl _ _).grown h3 hbase fun k hk => (ho'.lt k hk).1


/-- append of one element, made just now, as a step of a region that draws its order -/
theorem step_one (w : World) {ops : Array Oper} {o : Oper} {a : Act} {KK : Act → World → Prop} {Q : Exit → Act → World → Prop} {E : Prop} {t e : TypeId} {z : Value} {bytes : Nat}
    (T : Ty P t e z K.size bytes) (hgd : o.guard = none) (s x : Operand)
    (ho : o.op = .call { callee := .builtin .append, args := #[s, x], argTypes := #[t, t] })
    {B : Nat} {v : Value} {xs : List α} (hs : a.eval s = v) (hown : Ow K e B w v xs) (y : α) {cs : Array Value} (hcs : K.cells y = cs.toList)
    (hx : a.eval x = .slice (some ⟨w.heap.size, 0, none⟩) 1 1)
    (hbytes : (xs.length + 1) * bytes ≤ 140737488355328) (hbase : B ≤ w.heap.size)
    (h : ∀ v' w', Ow K e B w' v' (xs ++ [y]) → (w.alloc (.cells cs e)).grownBy w' v.ownBlock → Below B w w' → (v'.ownBlock = v.ownBlock ∨ v'.ownBlock = some (w.heap.size + 1)) → KK (a.put o.dst v') w') :
    if Region.wanted o (yielded ops a.tmps) = true then Oper.wp P o a (w.alloc (.cells cs e)) KK Q else E := by
  have hw : Region.wanted o (yielded ops a.tmps) = true := by simp [Region.wanted, hgd]
  rw [if_pos hw]
  have hr : Rd (w.alloc (.cells cs e)) (some ⟨w.heap.size, 0, none⟩) (flat K [y]) := by
    refine .inr ⟨w.heap.size, 0, rfl, by simp, fun k u hu => ?_⟩
    rw [flat_cons, flat_nil, List.append_nil, hcs] at hu
    have := cell_of_row (w.alloc (.cells cs e)) w.heap.size k cs e (0, 0) (heap_alloc_new w _)
    rw [Nat.zero_add, this]
    simpa using hu
  refine wp_any (w.alloc (.cells cs e)) T s x ho hs (hown.alloc _) hx rfl hr hbytes (by simp; omega) fun v' w' h1 h2 h3 h4 => ?_
  exact h v' w' h1 h2 (((Below.refl _ _).alloc hbase _).trans h3) (by simpa using h4)
end
end Go.Proofs.YtgcoohlakcncbaaGreat
