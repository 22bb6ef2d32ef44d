/- Joined of several texts: FS, 14L. -/
import Derived.Test.YtnolbgdbboiehaaGreatDoorLB
import Derived.Test.YtnolbgdbboiehaaGreatDoorNN
import Derived.Test.YtnolbgdbboiehaaGreatDoorB4
import Derived.Test.YtnolbgdbboiehaaGreatDoorSch
import Derived.Test.YtnolbgdbboiehaaGreatDoorAJ
namespace Go.Proofs.YtnolbgdbboiehaaGreatDoor
open Go.RowKit
set_option linter.unusedVariables false
set_option linter.unusedSimpArgs false
/- Lists of frames: how they lie, and the laws' own functions on them. -/
/-- a frame: a number and a slice's header -/
def cF : Cod (Int × Hd) := ⟨2, fun x => [.int .i64 x.1, x.2.val], fun _ => rfl, by decide, fun _ u hu => by simp at hu; rcases hu with rfl | rfl <;> rfl⟩
theorem ty_frame : Ty Tryz.prog 32 26 (.agg #[.int .i64 0, .slice none 0 0]) 2 32 := Ty.mk' Tryz.underlying32 (by kernel_rfl) rfl (by decide)
/-- frames of the call's own: all lists apart, below H -/
def ObF (B H : Nat) (w : World) (v : Value) (fs : List (Int × List Int)) : Prop :=
  ∃ hs : List (Int × Hd), Ob cF 26 B H w v hs ∧ hs.length = fs.length ∧ ∀ i (p : i < hs.length) (q : i < fs.length), hs[i].1 = fs[i].1 ∧ Ob cI 2 B H w hs[i].2.val fs[i].2 ∧
    ∀ k, hs[i].2.val.ownBlock = some k → v.ownBlock ≠ some k ∧ ∀ j (r : j < hs.length), j ≠ i → hs[j].2.val.ownBlock ≠ some k
/-- frames that are read -/
def SlF (w : World) (v : Value) (fs : List (Int × List Int)) : Prop :=
  ∃ hs : List (Int × Hd), Sl cF w v hs ∧ hs.length = fs.length ∧ ∀ i (p : i < hs.length) (q : i < fs.length), hs[i].1 = fs[i].1 ∧ Sl cI w hs[i].2.val fs[i].2
theorem ObF.sl {B H : Nat} {w : World} {v : Value} {fs : List (Int × List Int)} (h : ObF B H w v fs) : SlF w v fs := by
  obtain ⟨hs, h1, h2, h3⟩ := h
  exact ⟨hs, h1.sl, h2, fun i p q => ⟨(h3 i p q).1, (h3 i p q).2.1.sl⟩⟩
theorem SlF.opn {w : World} {v : Value} {fs : List (Int × List Int)} (h : SlF w v fs) : ∃ A c, v = .slice A fs.length c := by
  obtain ⟨hs, h1, h2, -⟩ := h
  rw [← h2]; exact h1.opn
theorem ObF.opn {B H : Nat} {w : World} {v : Value} {fs : List (Int × List Int)} (h : ObF B H w v fs) : ∃ A c, v = .slice A fs.length c := h.sl.opn
theorem SlF.below {w w' : World} {v : Value} {fs : List (Int × List Int)} (h : SlF w v fs) (hb : Below w.heap.size w w') : SlF w' v fs := by
  obtain ⟨hs, h1, h2, h3⟩ := h
  exact ⟨hs, h1.below hb, h2, fun i p q => ⟨(h3 i p q).1, (h3 i p q).2.below hb⟩⟩
theorem ObF.below {B H : Nat} {w w' : World} {v : Value} {fs : List (Int × List Int)} (h : ObF B H w v fs) (hb : Below w.heap.size w w') : ObF B H w' v fs := by
  obtain ⟨hs, h1, h2, h3⟩ := h
  exact ⟨hs, h1.below hb, h2, fun i p q => ⟨(h3 i p q).1, (h3 i p q).2.1.below hb, (h3 i p q).2.2⟩⟩
theorem ObF.keep {B H B' H' : Nat} {w w' : World} {v : Value} {fs : List (Int × List Int)} (h : ObF B H w v fs) (k : Keep B' H' w w') (hd : H ≤ B' ∨ H' ≤ B) : ObF B H w' v fs := by
  obtain ⟨hs, h1, h2, h3⟩ := h
  exact ⟨hs, h1.keep k hd, h2, fun i p q => ⟨(h3 i p q).1, (h3 i p q).2.1.keep k hd, (h3 i p q).2.2⟩⟩
theorem ObF.nil (B H : Nat) (w : World) : ObF B H w (.slice none 0 0) [] := ⟨[], ⟨Ow.nil _ _, fun k hk => by cases hk⟩, rfl, fun i p => by simp at p⟩
theorem ObF.mono {B B' H : Nat} {w : World} {v : Value} {fs : List (Int × List Int)} (h : ObF B H w v fs) (hB : B' ≤ B) : ObF B' H w v fs := by
  obtain ⟨hs, h1, h2, h3⟩ := h
  exact ⟨hs, ⟨h1.1.mono hB, h1.2⟩, h2, fun i p q => ⟨(h3 i p q).1, ⟨(h3 i p q).2.1.1.mono hB, (h3 i p q).2.1.2⟩, (h3 i p q).2.2⟩⟩
theorem ObF.top {B H H' : Nat} {w : World} {v : Value} {fs : List (Int × List Int)} (h : ObF B H w v fs) (hH : H ≤ H') : ObF B H' w v fs := by
  obtain ⟨hs, h1, h2, h3⟩ := h
  exact ⟨hs, ⟨h1.1, fun k hk => Nat.lt_of_lt_of_le (h1.2 k hk) hH⟩, h2, fun i p q => ⟨(h3 i p q).1, ⟨(h3 i p q).2.1.1, fun k hk => Nat.lt_of_lt_of_le ((h3 i p q).2.1.2 k hk) hH⟩, (h3 i p q).2.2⟩⟩
/-- one frame more, whose list is younger than all of them -/
theorem ObF.push {B : Nat} {w0 w : World} {v : Value} {fs : List (Int × List Int)} (h : ObF B w0.heap.size w0 v fs) (hb : Below w0.heap.size w0 w) {A : Option Addr} {n c : Nat} {xs : List Int} (hu : Ow cI 2 w0.heap.size w (.slice A n c) xs) (hB : B ≤ w0.heap.size) (x : Int) :
    ∃ hs : List (Int × Hd), Ow cF 26 B w v hs ∧ hs.length = fs.length ∧ ∀ w' v' W, w.grownBy W none → W.heap.size = w.heap.size + 1 → Ow cF 26 B w' v' (hs ++ [(x, ⟨A, n, c⟩)]) → W.grownBy w' v.ownBlock →
      (v'.ownBlock = v.ownBlock ∨ v'.ownBlock = some (w.heap.size + 1)) → ObF B w'.heap.size w' v' (fs ++ [(x, xs)]) := by
  obtain ⟨hs, h1, h2, h3⟩ := h
  have hsz0 := hb.size
  refine ⟨hs, h1.1.below hb, h2, fun w' v' W hw hWz ho hg hat => ?_⟩
  have hsz : w.heap.size < w'.heap.size := by have := hg.size; omega
  have hv : ∀ k, v.ownBlock = some k → k < w0.heap.size := fun k hk => h1.2 k hk
  have key : ∀ (u : Value) (ys : List Int), Ow cI 2 B w u ys → (∀ k, u.ownBlock = some k → k < w.heap.size ∧ v.ownBlock ≠ some k) →
      Ob cI 2 B w'.heap.size w' u ys ∧ ∀ k, u.ownBlock = some k → v'.ownBlock ≠ some k := by
    intro u ys hu hk
    refine ⟨⟨(hu.kept hw ?_).kept hg ?_, fun k e => by have := (hk k e).1; omega⟩, fun k e e3 => ?_⟩
    · cases hq : u.ownBlock with
      | none => exact .inl rfl
      | some k => exact .inr (by simp)
    · cases hq : u.ownBlock with
      | none => exact .inl rfl
      | some k => exact .inr fun e => (hk k hq).2 e.symm
    · rcases hat with e2 | e2
      · exact (hk k e).2 (e2 ▸ e3)
      · rw [e2] at e3; injection e3 with e3; have := (hk k e).1; omega
  have hnew : ∀ k, (Value.slice A n c).ownBlock = some k → w0.heap.size ≤ k ∧ k < w.heap.size := fun k hk => hu.block k hk
  have hold : ∀ i (p : i < hs.length), ∀ k, hs[i].2.val.ownBlock = some k → k < w0.heap.size := fun i p k hk => (h3 i p (by omega)).2.1.2 k hk
  have e3 : ∀ (p : hs.length < (hs ++ [(x, (⟨A, n, c⟩ : Hd))]).length), (hs ++ [(x, (⟨A, n, c⟩ : Hd))])[hs.length] = (x, ⟨A, n, c⟩) := fun p => by simp
  refine ⟨_, ⟨ho, fun k hk => (ho.block k hk).2⟩, by simp [h2], fun i p q => ?_⟩
  by_cases hi : i < hs.length
  · have e1 : (hs ++ [(x, (⟨A, n, c⟩ : Hd))])[i] = hs[i] := List.getElem_append_left hi
    have e2 : (fs ++ [(x, xs)])[i] = fs[i]'(by omega) := List.getElem_append_left (by omega)
    obtain ⟨a1, a2, a3⟩ := h3 i hi (by omega)
    have kk := key _ _ (a2.1.below hb) (fun k hk => ⟨by have := hold i hi k hk; omega, (a3 k hk).1⟩)
    rw [e1, e2]
    refine ⟨a1, kk.1, fun k hk => ⟨kk.2 k hk, fun j r hj => ?_⟩⟩
    by_cases hjl : j < hs.length
    · rw [List.getElem_append_left hjl]
      exact (a3 k hk).2 j hjl hj
    · have : j = hs.length := by simp at r; omega
      subst this
      rw [e3]
      intro e
      have q1 := (hnew k e).1
      have q2 := hold i hi k hk
      omega
  · have hi' : i = hs.length := by simp at p; omega
    subst hi'
    have e2 : (fs ++ [(x, xs)])[hs.length] = (x, xs) := by
      rw [List.getElem_append_right (by omega)]; simp [h2]
    rw [e3, e2]
    have kk := key (.slice A n c) xs (hu.mono hB) (fun k hk => ⟨(hnew k hk).2, fun e => by have := hv k e; have := (hnew k hk).1; omega⟩)
    refine ⟨rfl, kk.1, fun k hk => ⟨kk.2 k hk, fun j r hj => ?_⟩⟩
    have hjl : j < hs.length := by simp at r; omega
    rw [List.getElem_append_left hjl]
    intro e
    have q1 := (hnew k hk).1
    have q2 := hold j hjl k e
    omega
theorem SlF.at_ {w : World} {A : Option Addr} {n c : Nat} {fs : List (Int × List Int)} (h : SlF w (.slice A n c) fs) {k : Nat} (hk : k < fs.length) :
    ∃ b o Ai ci, A = some ⟨b, o, none⟩ ∧ b < w.heap.size ∧ w.cell? ⟨b, o + k * 2, none⟩ = some (.int .i64 fs[k].1) ∧ w.cell? ⟨b, o + k * 2 + 1, none⟩ = some (.slice Ai fs[k].2.length ci) ∧ Sl cI w (.slice Ai fs[k].2.length ci) fs[k].2 := by
  obtain ⟨hs, h1, h2, h3⟩ := h
  have hk' : k < hs.length := by omega
  obtain ⟨b, o, e1, hb, hc⟩ := h1.cell hk'
  obtain ⟨a1, a2⟩ := h3 k hk' hk
  have c0 := hc 0 (.int .i64 hs[k].1) rfl
  have c1 := hc 1 hs[k].2.val rfl
  obtain ⟨Ai, ci, e2⟩ := a2.opn
  rw [e2] at a2 c1
  rw [a1] at c0
  exact ⟨b, o, Ai, ci, e1, hb, c0, c1, a2⟩
/-- what frames count -/
def szF : List (Int × List Int) → Nat
  | [] => 0
  | x :: l => 1 + x.2.length + szF l
theorem szF_app (a b : List (Int × List Int)) : szF (a ++ b) = szF a + szF b := by
  induction a with
  | nil => simp [szF]
  | cons x l ih => simp only [List.cons_append, szF, ih]; omega
theorem szF_len (a : List (Int × List Int)) : a.length ≤ szF a := by
  induction a with
  | nil => simp
  | cons x l ih => simp only [List.length_cons, szF]; omega
theorem szF_succ (fs : List (Int × List Int)) (j : Nat) (h : j < fs.length) : szF (fs.take (j + 1)) = szF (fs.take j) + (1 + fs[j].2.length) := by
  rw [List.take_succ_eq_append_getElem h, szF_app]; rfl
theorem szF_take (fs : List (Int × List Int)) (j : Nat) : szF (fs.take j) ≤ szF fs := by
  conv => rhs; rw [← List.take_append_drop j fs, szF_app]
  omega
theorem szF_get (fs : List (Int × List Int)) (j : Nat) (h : j < fs.length) : fs[j].2.length ≤ szF fs := by
  have h1 := szF_succ fs j h
  have h2 := szF_take fs (j + 1)
  omega
/- allFiltrations of the program. -/
/-- append of one element behind a slice without room: a new block -/
theorem ap_clip {P : Program} {α : Type} {Kc : Cod α} (w : World) {o : Oper} {a : Act} {K : Act → World → Prop} {Q : Exit → Act → World → Prop} {t e : TypeId} {z : Value} {bytes : Nat}
    (T : Ty P t e z Kc.size bytes) (s x : Operand) (ho : o.op = .call { callee := .builtin .append, args := #[s, x], argTypes := #[t, t] })
    {A : Option Addr} {n : Nat} {xs : List α} (hs : a.eval s = .slice A n n) (hsl : Sl Kc w (.slice A n n) xs) (y : α) {cs : Array Value} (hcs : Kc.cells y = cs.toList) {g : Nat} (hx : a.eval x = .slice (some ⟨g, 0, none⟩) 1 1)
    (hg : ∀ j u, cs[j]? = some u → w.cell? ⟨g, j, none⟩ = some u) (hbytes : (n + 1) * bytes ≤ 140737488355328)
    (h : ∀ v' w', Ow Kc e w.heap.size w' v' (xs ++ [y]) → w.grownBy w' none → K (a.put o.dst v') w') : o.wp P a w K Q := by
  have hnil := fun (e : A = none) => Sl.none_nil (e ▸ hsl)
  obtain ⟨A', c', hv, hc, hm, hr⟩ := hsl
  injection hv with e1 e2 e3
  subst e1
  subst e3
  subst e2
  obtain ⟨i, hi, hz, hsize, hby⟩ := T.info
  have hpos := T.pos
  have hmax : xs.length + 1 ≤ 140737488355328 := Nat.le_trans (Nat.le_mul_of_pos_right _ hpos) hbytes
  have hcl : cs.toList.length = 1 * Kc.size := by rw [← hcs, Kc.len]; omega
  have hcc : ∀ j u, cs.toList[j]? = some u → w.cell? ((⟨g, 0, none⟩ : Addr).add j) = some u := fun j u hj => by
    rw [Addr.add_lit, Nat.zero_add]
    exact hg j u (by simpa using hj)
  have h1c : ∀ u ∈ cs.toList, u.oneCell' = true := fun u hu => Kc.one y u (by rw [hcs]; exact hu)
  have shape : ∀ v' w', World.ownsRow w' w.heap.size e Kc.size v' (xs.length + 1) (flat Kc xs ++ cs.toList) → Ow Kc e w.heap.size w' v' (xs ++ [y]) := by
    intro v' w' h
    have hfl : flat Kc (xs ++ [y]) = flat Kc xs ++ cs.toList := by rw [flat_append, flat_cons, flat_nil, List.append_nil, hcs]
    refine ⟨?_, by rw [List.length_append, hfl]; exact h⟩
    rw [List.length_append, List.length_singleton]
    rcases h.2 with ⟨h1, h2⟩ | ⟨g, cap, cur, hv, _, _, hnc, hcm, _⟩
    · omega
    · exact ⟨_, cap, hv, hnc, by simp only [maxLen] at hcm; omega⟩
  have main : ∃ v' w', (Builtin.append_ #[t, t] o.type #[.slice A xs.length xs.length, .slice (some ⟨g, 0, none⟩) 1 1]).run P w = .ok v' w' ∧ w'.ownsRow w.heap.size e Kc.size v' (xs.length + 1) (flat Kc xs ++ cs.toList) ∧ w.grownBy w' none := by
    cases A with
    | some b =>
      rcases hr with hr | ⟨b', off, hb, _, hcell⟩
      · have hl := flat_length (K := Kc) xs
        rw [hr, List.length_nil] at hl
        have h0 : xs.length = 0 := by
          rcases Nat.eq_zero_or_pos xs.length with h | h
          · exact h
          · have := Nat.mul_pos h Kc.pos; omega
        obtain ⟨v', w', h1, h2, h3⟩ := run_append_arg_grows (P := P) w t o.type e i z Kc.size bytes T.under hi hz hsize hby T.cells Kc.pos b xs.length xs.length (flat Kc xs) (flat_length xs) (fun j u hj => by rw [hr] at hj; simp at hj) ⟨g, 0, none⟩ 1 1 cs.toList hcl hcc (by omega) (by simp only [maxLen]; omega) hbytes
        exact ⟨v', w', h1, h2, h3⟩
      · injection hb with hb
        subst hb
        obtain ⟨v', w', h1, h2, h3⟩ := run_append_arg_grows (P := P) w t o.type e i z Kc.size bytes T.under hi hz hsize hby T.cells Kc.pos ⟨b', off, none⟩ xs.length xs.length (flat Kc xs) (flat_length xs) (fun j u hj => by rw [Addr.add_lit]; exact hcell j u hj) ⟨g, 0, none⟩ 1 1 cs.toList hcl hcc (by omega) (by simp only [maxLen]; omega) hbytes
        exact ⟨v', w', h1, h2, h3⟩
    | none =>
      obtain rfl := hnil rfl
      obtain ⟨v', w', hrun, r1, r2, _⟩ := run_append_own (P := P) w w.heap.size t o.type e i z Kc.size bytes T.under hi hz hsize hby T.cells Kc.pos (.slice none 0 0) 0 [] (World.ownsRow_nil w _ e Kc.size) ⟨g, 0, none⟩ 1 1 cs.toList hcl hcc h1c (by simp [maxLen]) hbytes (Nat.le_refl _)
      exact ⟨v', w', hrun, r1, r2⟩
  obtain ⟨v', w', hrun, h2, h3⟩ := main
  unfold Oper.wp execOp
  simp only [ho, resolve, invoke, builtin, Sem.run_bind, Sem.run_pure, Result.andThen_ok, List.map_toArray, List.map_cons, List.map_nil, hs, hx, hrun]
  exact h _ _ (shape _ _ h2) h3
theorem slices_Clip_int64 (A : Option Addr) (n c : Nat) (xs : List Int) (w : World) (h : Sl cI w (.slice A n c) xs) :
    Calls Tryz.prog 78 #[.slice A n c] w fun e w' => e = .returned (.slice A n n) ∧ w = w' := by
  have hnil := fun (e : A = none) => Sl.none_nil (e ▸ h)
  obtain ⟨hn, hc, hm⟩ := h.cap
  clear h
  subst hn
  cases A with
  | none =>
    obtain rfl := hnil rfl
    clear hnil
    go_enter Tryz.func78, Tryz.ntmps78
    go_wp2
    go_ret
    exact ⟨rfl, rfl⟩
  | some b =>
    clear hnil
    go_enter Tryz.func78, Tryz.ntmps78
    go_wp2
    go_ret
    exact ⟨rfl, rfl⟩
theorem Sl.clip {α : Type} {K : Cod α} {w : World} {A : Option Addr} {n c : Nat} {xs : List α} (h : Sl K w (.slice A n c) xs) : Sl K w (.slice A n n) xs := by
  obtain ⟨A', c', hv, hc, hm, hr⟩ := h
  injection hv with e1 e2 e3
  subst e1
  subst e2
  exact ⟨A, xs.length, rfl, Nat.le_refl _, by omega, hr⟩
theorem ty_rows14 : Ty Tryz.prog 106 24 (.slice none 0 0) 1 24 := Ty.mk' Tryz.underlying106 (by kernel_rfl) rfl (by decide)
theorem OwR.mono {t : TypeId} {B B' : Nat} {w : World} {v : Value} {xss : List (List Int)} (h : OwR t B w v xss) (hB : B' ≤ B) : OwR t B' w v xss := by
  obtain ⟨hs, h1, h2, h3⟩ := h
  exact ⟨hs, h1.mono hB, h2, h3⟩
theorem OwR.base {t : TypeId} {B : Nat} {w : World} {v : Value} {xss : List (List Int)} (h : OwR t B w v xss) : ∀ k, v.ownBlock = some k → B ≤ k ∧ k < w.heap.size := by
  obtain ⟨hs, h1, -⟩ := h
  exact h1.block
theorem take_flat_le {α β : Type} (l : List α) (g : α → List β) (k : Nat) : ((l.take k).flatMap g).length ≤ (l.flatMap g).length := by
  conv => rhs; rw [← List.take_append_drop k l, List.flatMap_append, List.length_append]
  omega
theorem take_flat_succ {α β : Type} (l : List α) (g : α → List β) (k : Nat) (h : k < l.length) : (l.take (k + 1)).flatMap g = (l.take k).flatMap g ++ g l[k] := by
  rw [List.take_succ_eq_append_getElem h, List.flatMap_append]
  simp
/-- all frames between two lists -/
def fsl (lo hi : List Nat) (n : Nat) : List (Int × List Int) := (cds lo hi n).map fun c => ((n : Int), li c)
set_option maxRecDepth 100000 in
set_option maxHeartbeats 2000000 in
theorem impl_allFiltrations (ns us : List Nat) (f : Fm) (F : Nat) (A0 A1 A : Option Addr) (c0 c1 cc : Nat) (sf bx dm : Value) (w : World) (h : Fil w F ns us f A0 A1 A c0 c1 cc sf bx dm) (h1 : MdN ns us) (hl : (enc f).length ≤ 1000) (h7 : chc ns us f ≤ 7) :
    Calls Tryz.prog 35 #[.pointer (some ⟨F, 0, none⟩)] w fun e w' => ∃ u, e = .returned (.tuple #[u, .bool true]) ∧ ObF w.heap.size w'.heap.size w' u (fsl (lst ns us f) (gre ns us f) (acn ns us f)) ∧ Below w.heap.size w w' := by
  have HF := Lib.hid h
  have hn8 : acn ns us f ≤ 8 := Nat.le_trans (acn_le ns us f) h1.r.1
  have HCh := Lib.hid (impl_choice ns us f F A0 A1 A c0 c1 cc sf bx dm w h h1 hl)
  have HLe := Lib.hid (fun W (hW : Below w.heap.size w W) => impl_least ns us f F A0 A1 A c0 c1 cc sf bx dm W (h.below hW) h1.r)
  have HGr := Lib.hid (fun W (hW : Below w.heap.size w W) => impl_greatest ns us f F A0 A1 A c0 c1 cc sf bx dm W (h.below hW) h1 hl)
  have HLL := Lib.hid (lst_length ns us f)
  have HGL := Lib.hid (gre_length ns us f)
  have HLT := Lib.hid (lst_lt ns us f)
  have HGT := Lib.hid (gre_lt ns us f)
  have h256 : ∀ {l : List Nat}, (∀ x ∈ l, x < 2 ^ acn ns us f) → ∀ i, l.getD i 0 < 256 := fun h i => Nat.lt_of_lt_of_le (getD_lt h i) (two_pow_256 hn8)
  have HL256 := Lib.hid (h256 HLT.out)
  have HG256 := Lib.hid (h256 HGT.out)
  have HCl : Hid (∀ i, i ≤ acn ns us f → (cds (lst ns us f) (gre ns us f) i).length ≤ 128) := Lib.hid fun i hi => by
    rw [cds_length _ _ HG256.out]
    exact Nat.pow_le_pow_right (n := 2) (j := 7) (by omega) (Nat.le_trans (chTo_mono _ _ hi) h7)
  have HCp : Hid (0 < (cds (lst ns us f) (gre ns us f) (acn ns us f)).length) := Lib.hid (by rw [cds_length _ _ HG256.out]; exact Nat.pow_pos (by omega))
  have HCx := Lib.hid (cds_len (lst ns us f) (gre ns us f))
  have HCa := Lib.hid (cds_asc (lst ns us f) (gre ns us f) HG256.out)
  have HFs : Hid (fsl (lst ns us f) (gre ns us f) (acn ns us f) = (cds (lst ns us f) (gre ns us f) (acn ns us f)).map fun c => ((acn ns us f : Int), li c)) := Lib.hid rfl
  have HC0 : Hid (cds (lst ns us f) (gre ns us f) 0 = [[]]) := Lib.hid rfl
  have HCS : Hid (∀ i, cds (lst ns us f) (gre ns us f) (i + 1) = (cds (lst ns us f) (gre ns us f) i).flatMap fun c => (sbs (andnot ((gre ns us f).getD i 0) ((lst ns us f).getD i 0))).map fun s => c ++ [(lst ns us f).getD i 0 ||| s]) := Lib.hid fun i => rfl
  clear h h1 hl h256
  generalize fsl (lst ns us f) (gre ns us f) (acn ns us f) = FS at *
  generalize hcd : cds (lst ns us f) (gre ns us f) = cd at *
  clear hcd
  generalize chc ns us f = kc at *
  generalize lst ns us f = lo at *
  generalize gre ns us f = hi at *
  generalize acn ns us f = n at *
  have hk2 : decide ((7 : Int) < (kc : Int)) = false := decide_eq_false (by omega)
  go_enter Tryz.func35, Tryz.ntmps35
  go_wp2_with fail
  refine HCh.out.mono ?_
  rintro e w1 ⟨rfl, hb⟩
  have HB1 := Lib.hid hb
  clear hb HCh
  go_wp2_with fail
  refine (HLe.out _ HB1.out).mono ?_
  rintro e w2 ⟨BL, dL, rfl, hoL, hb⟩
  have HB2 := Lib.hid (bthen HB1.out hb)
  have HOL := Lib.hid hoL.sl
  clear hb hoL HLe
  go_wp2_with fail
  refine (HGr.out _ HB2.out).mono ?_
  rintro e w3 ⟨BG, dG, rfl, hoG, hb⟩
  have HB3 := Lib.hid (bthen HB2.out hb)
  have HOG := Lib.hid hoG.sl
  have HOL3 := Lib.hid (HOL.out.below hb)
  clear hb hoG HGr HOL
  go_upto_region 4 with fail
  have hbA := below_alloc' w3 (.cells #[.int .i64 n, .slice BL n dL] 26)
  have hkA := Blk.new w3 26 #[.int .i64 n, .slice BL n dL]
  have hbB := below_alloc' (w3.alloc (.cells #[.int .i64 n, .slice BL n dL] 26)) (.cells #[.int .i64 n, .slice BG n dG] 26)
  have hkB : Blk _ (w3.heap.size + 1) _ _ := Blk.new' (w3.alloc (.cells #[.int .i64 n, .slice BL n dL] 26)) 26 #[.int .i64 n, .slice BG n dG] (by simp)
  have HKL := Lib.hid (hkA.below hbB hkA.lt)
  have HKG := Lib.hid hkB
  have HBW := Lib.hid (bthen HB3.out (bthen hbA hbB))
  have HSL := Lib.hid ((HOL3.out.below hbA).below hbB)
  have HSG := Lib.hid ((HOG.out.below hbA).below hbB)
  clear hbA hkA hbB hkB HOL3 HOG HB1 HB2 HB3
  generalize World.alloc (w3.alloc _) _ = W at *
  have lL := HKL.out.lt
  have lG := HKG.out.lt
  have kL : W.cell? ⟨w3.heap.size, 1, none⟩ = some (.slice BL n dL) := HKL.out.cell 1
  have kG : W.cell? ⟨w3.heap.size + 1, 1, none⟩ = some (.slice BG n dG) := HKG.out.cell 1
  have hO0 : Ow cH 24 W.heap.size (W.alloc (.cells #[.slice none 0 0] 24)) (.slice (some ⟨W.heap.size, 0, none⟩) 1 1) [(⟨none, 0, 0⟩ : Hd)] := Ow.lit (K := cH) [(⟨none, 0, 0⟩ : Hd)] rfl rfl (Nat.le_refl _)
  have HR0 : Hid (OwR 24 W.heap.size (W.alloc (.cells #[.slice none 0 0] 24)) (.slice (some ⟨W.heap.size, 0, none⟩) 1 1) ((cd 0).map li)) := Lib.hid (by
    rw [HC0.out]
    refine ⟨_, hO0, rfl, fun i a b => ?_⟩
    obtain rfl : i = 0 := by simp at a; omega
    exact ⟨Sl.nil, fun k hk => by cases hk⟩)
  have HBa := Lib.hid (below_alloc' W (.cells #[.slice none 0 0] 24))
  have kG' := (HBa.out.cell (p := ⟨w3.heap.size + 1, 1, none⟩) lG).trans kG
  have lG' := Nat.lt_of_lt_of_le lG HBa.out.size
  clear hO0
  go_upto_region 6 with fail
  generalize World.alloc W _ = W1 at *
  clear kG' lG'
  go_loopw [6, 7, 8, 9, 11, 13, 28] (fun cv _ _ _ _ _ ix wr => ∃ x : Nat, x ≤ n ∧ ix = .int .i64 x ∧ OwR 24 W.heap.size wr cv ((cd x).map li) ∧ Below W.heap.size W wr) (fun _ _ _ _ _ _ ix _ => n - (intOf ix).toNat)
  case atStart => exact ⟨0, Nat.zero_le _, rfl, HR0.out, HBa.out⟩
  case round =>
    obtain ⟨x, hx, rfl, ho, hb⟩ := hrel
    have HO := Lib.hid ho
    have HB := Lib.hid hb
    by_cases hlt : x < n
    · obtain ⟨Ac, cc', hcv⟩ := ho.sl2.opn
      have hcl : ((cd x).map li).length = (cd x).length := List.length_map ..
      rw [hcl] at hcv
      subst hcv
      obtain ⟨bg, og, eg, hbg, hcg⟩ := (HSG.out.below hb).atI (k := x) (by rw [li_length, HGL.out]; exact hlt)
      obtain ⟨bl, ol, el, hbl, hcl0⟩ := (HSL.out.below hb).atI (k := x) (by rw [li_length, HLL.out]; exact hlt)
      subst eg
      subst el
      rw [li_get] at hcg hcl0
      have q1 := HL256.out x
      have q2 := HG256.out x
      have HCSx := Lib.hid (HCS.out x)
      have HClx := Lib.hid (HCl.out (x + 1) (by omega))
      have HCly := Lib.hid (HCl.out x (by omega))
      have HCxx := Lib.hid (HCx.out x)
      have kG' := (hb.cell (p := ⟨w3.heap.size + 1, 1, none⟩) lG).trans kG
      have kL' := (hb.cell (p := ⟨w3.heap.size, 1, none⟩) lL).trans kL
      have lG' := Nat.lt_of_lt_of_le lG hb.size
      have lL' := Nat.lt_of_lt_of_le lL hb.size
      generalize lo.getD x 0 = m1 at *
      generalize hi.getD x 0 = m2 at *
      have E := i64_andNot_nat m2 m1 (by omega) (by omega)
      have hz : andnot m2 m1 < 256 := andnot_lt (k := 8) q2
      have HSb := Lib.hid (fun W => impl_subMasks (andnot m2 m1) W hz)
      have HSlen := Lib.hid (sbs_len hz)
      have HSw : Hid (∀ s ∈ sbs (andnot m2 m1), s < 256) := Lib.hid fun s hs => by
        have e := eq_of_beq (List.all_eq_true.1 (sbs_within _ hz) s hs)
        exact Nat.lt_of_le_of_lt (by rw [← e]; exact Nat.and_le_right) hz
      generalize andnot m2 m1 = z at *
      generalize sbs z = sb at *
      have HCN := Lib.hid (fun k => take_flat_le (cd x) (fun c => sb.map fun s => c ++ [m1 ||| s]) k)
      have HCT := Lib.hid (fun k h => take_flat_succ (cd x) (fun c => sb.map fun s => c ++ [m1 ||| s]) k h)
      clear ho hb
      generalize wr = wo at *
      go_wp2
      go_loopw [9, 11, 13, 35] (fun nv _ _ ix wr => ∃ k : Nat, k ≤ (cd x).length ∧ ix = .int .i64 k ∧ OwR 24 wo.heap.size wr nv ((((cd x).take k).flatMap fun c => sb.map fun s => c ++ [m1 ||| s]).map li) ∧ Below wo.heap.size wo wr) (fun _ _ _ ix _ => (cd x).length - (intOf ix).toNat)
      case atStart => exact ⟨0, Nat.zero_le _, rfl, OwR.nil, Below.refl _ _⟩
      case round =>
        obtain ⟨k, hk, rfl, ho, hb⟩ := hrel
        have HO2 := Lib.hid ho
        have HB2 := Lib.hid hb
        have hcy := HCly.out
        by_cases hltk : k < (cd x).length
        · obtain ⟨bc, oc, A1', n1, cc1, e1, hbc, hcc, hsc⟩ := (HO.out.sl2).at_ (k := k) (by rw [hcl]; exact hltk)
          subst e1
          rw [List.getElem_map] at hsc
          have hcx : ((cd x)[k]'hltk).length = x := HCxx.out _ (List.getElem_mem hltk)
          obtain ⟨A1'', c1'', e2⟩ := hsc.opn
          rw [li_length, hcx] at e2
          injection e2 with e2 e3 e4
          subst e2
          have e3' := e3.symm
          subst e3'
          have e4' := e4.symm
          subst e4'
          have hcc' := (hb.cell (p := ⟨bc, oc + k, none⟩) hbc).trans hcc
          have hbc' := Nat.lt_of_lt_of_le hbc hb.size
          have HTk := Lib.hid (HCT.out k hltk)
          have HNk := Lib.hid (HCN.out k)
          have HSc := Lib.hid hsc
          generalize (cd x)[k]'hltk = cdk at *
          have HCk := Lib.hid hcx
          clear hcx
          have hcg' := (hb.cell (p := ⟨bg, og + x, none⟩) hbg).trans hcg
          have hcl' := (hb.cell (p := ⟨bl, ol + x, none⟩) hbl).trans hcl0
          have hbg' := Nat.lt_of_lt_of_le hbg hb.size
          have hbl' := Nat.lt_of_lt_of_le hbl hb.size
          have kG2 := (hb.cell (p := ⟨w3.heap.size + 1, 1, none⟩) lG').trans kG'
          have kL2 := (hb.cell (p := ⟨w3.heap.size, 1, none⟩) lL').trans kL'
          have lG2 := Nat.lt_of_lt_of_le lG' hb.size
          have lL2 := Nat.lt_of_lt_of_le lL' hb.size
          clear ho hb hsc
          go_wp2_with fail
          refine (HSb.out _).mono ?_
          rintro e w5 ⟨us5, rfl, hos, hb5⟩
          obtain ⟨As, cs5, rfl⟩ := hos.opn
          rw [li_length] at hos ⊢
          have HS5 := Lib.hid hos.sl
          have HAp5 : Hid (∀ g, (Value.slice As sb.length cs5).ownBlock = some g → g < w5.heap.size ∧ u9.ownBlock ≠ some g) := Lib.hid fun g hg => ⟨(hos.block g hg).2, fun e => by
            have h1 := (hos.block g hg).1
            have h2 := (HO2.out.base g e).2
            omega⟩
          have HO5 := Lib.hid (HO2.out.below hb5)
          have HB5 := Lib.hid (bthen HB2.out hb5)
          generalize hpre : (((cd x).take k).flatMap fun c => sb.map fun s => c ++ [m1 ||| s]) = pre at *
          have HPre := Lib.hid hpre
          clear hos hb5 hpre hcg' hcl' kG2 kL2 hcc hcc'
          generalize wr = wq at *
          go_wp2
          go_loopw [9, 13, 48] (fun nv _ ix wr => ∃ j : Nat, j ≤ sb.length ∧ ix = .int .i64 j ∧ OwR 24 wo.heap.size wr nv ((pre ++ (sb.take j).map fun s => cdk ++ [m1 ||| s]).map li) ∧ Sl cI wr (.slice As sb.length cs5) (li sb) ∧ (∀ g, (Value.slice As sb.length cs5).ownBlock = some g → g < wr.heap.size ∧ nv.ownBlock ≠ some g) ∧ Below wo.heap.size wo wr) (fun _ _ ix _ => sb.length - (intOf ix).toNat)
          case atStart => exact ⟨0, Nat.zero_le _, rfl, by simpa using HO5.out, HS5.out, HAp5.out, HB5.out⟩
          case round =>
            obtain ⟨j, hj, rfl, ho, hs, hap, hb⟩ := hrel
            have HO6 := Lib.hid ho
            have HS6 := Lib.hid hs
            have HA6 := Lib.hid hap
            have HB6 := Lib.hid hb
            have hsz := hb.size
            have hsl256 := HSlen.out
            by_cases hltj : j < sb.length
            · obtain ⟨bs, os5, e6, hbs, hcs⟩ := li_at4 hs hltj
              subst e6
              rw [show sb[j] = sb.getD j 0 by simp [List.getD_eq_getElem?_getD, hltj]] at hcs
              have hs256 : sb.getD j 0 < 256 := HSw.out _ (by rw [List.getD_eq_getElem?_getD, List.getElem?_eq_getElem hltj]; exact List.getElem_mem hltj)
              have HTj : Hid (pre ++ (sb.take (j + 1)).map (fun s => cdk ++ [m1 ||| s]) = (pre ++ (sb.take j).map fun s => cdk ++ [m1 ||| s]) ++ [cdk ++ [m1 ||| sb.getD j 0]]) := Lib.hid (by rw [take_snoc _ hltj, List.map_append, List.append_assoc]; rfl)
              have HPl : Hid ((pre ++ (sb.take j).map fun s => cdk ++ [m1 ||| s]).length ≤ 1000) := Lib.hid (by
                rw [List.length_append, List.length_map, List.length_take]
                have h1 := HNk.out
                have h2 := HClx.out
                have h3 := HSlen.out
                rw [HCSx.out] at h2
                omega)
              have hsc7 : ∀ X, Below wr.heap.size wr X → Sl cI X (.slice A1' x c1'') (li cdk) := fun X hX => HSc.out.below (bthen hb hX)
              have HSc7 := Lib.hid hsc7
              generalize (pre ++ (sb.take j).map fun s => cdk ++ [m1 ||| s]) = pts at *
              generalize sb.getD j 0 = s at *
              have or1 := i64_or_nat m1 s (by omega) (by omega)
              generalize hms : m1 ||| s = ms at *
              have hcl2 := (hb.cell (p := ⟨bl, ol + x, none⟩) hbl).trans hcl0
              have hbl2 := Nat.lt_of_lt_of_le hbl hb.size
              have kL3 := (hb.cell (p := ⟨w3.heap.size, 1, none⟩) lL').trans kL'
              have lL3 := Nat.lt_of_lt_of_le lL' hb.size
              clear ho hs hap hb hsc7
              go_upto_region 10 with fail
              refine wp_region_sched (Below wr.heap.size wr) 13 [0, 1, 2, 3, 4, 5, 6, 7, 8, 9] [0, 1, 2, 3, 4, 5, 6, 7, 8, 9, 10, 11, 12] (by kernel_rfl) (by kernel_rfl) (Below.refl _ _).drew ?_
              apply wpSched_q rfl rfl
              case h =>
                intro w' hI K hK
                simp only [quietV, stillV]
                go_simp
                exact hK
              go_simp
              apply wpSched_q rfl rfl
              case h =>
                intro w' hI K hK
                simp only [quietV, stillV]
                go_simp
                exact hK
              go_simp
              apply wpSched_q rfl rfl
              case h =>
                intro w' hI K hK
                simp only [quietV, stillV]
                go_simp
                exact ⟨_, (slices_Clip_int64 A1' x c1'' _ w' (HSc7.out w' hI)).mono fun e w'' ⟨he, hw⟩ => ⟨he, hw.symm⟩, hK⟩
              go_simp
              repeat
                apply wpSched_q rfl rfl
                case h =>
                  intro w' hI K hK
                  have kL3' := (hI.cell (p := ⟨w3.heap.size, 1, none⟩) lL3).trans kL3
                  have hcl2' := (hI.cell (p := ⟨bl, ol + x, none⟩) hbl2).trans hcl2
                  simp only [quietV, stillV]
                  go_simp
                  exact hK
                go_simp
              refine wpSched_r rfl rfl ?_ (Below.refl _ _).drew
              intro K hK hI
              go_simp
              have hI1 := hI.alloc hI.size (.cells #[.int .i64 (ms : Nat)] 2)
              refine hK _ _ hI1 ?_
              clear hK K
              have hsl1 := (HSc7.out _ hI1).clip
              refine wpSched_r rfl rfl ?_ hI1
              intro K hK _
              rw [if_pos (show Region.wanted _ _ = true from rfl)]
              refine ap_clip (Kc := cI) _ ty_int64 _ _ rfl (A := A1') (n := x) rfl hsl1 (ms : Int) rfl rfl (fun j u hu => ((Blk.new wr.drew 2 #[.int .i64 (ms : Nat)]).cell j).trans hu) (by omega) ?_
              intro v1 w6 ho1 hg1
              have hI2 : Below wr.heap.size wr w6 := hI1.grown hg1 hI1.size (fun k hk => by cases hk)
              refine hK _ _ hI2 ?_
              clear hK K hI hsl1
              obtain ⟨A9, c9, rfl⟩ := ho1.opn
              have hl9 : (li cdk ++ [(ms : Int)]).length = x + 1 := by rw [List.length_append, li_length, HCk.out]; rfl
              rw [hl9] at ho1 ⊢
              refine wpSched_r rfl rfl ?_ hI2
              intro K hK _
              go_simp
              refine hK _ _ (hI2.alloc hI2.size _) ?_
              clear hK K
              refine wpSched_nil ?_
              try simp only [List.drop_succ_cons, List.drop_zero, List.drop_nil]
              have hz9 : wr.heap.size ≤ w6.heap.size := hI2.size
              have hz1 := hI1.size
              obtain ⟨hs7, h71, h72, h73⟩ := (HO6.out.below hI2).push ho1.sl (fun k hk => ⟨(ho1.block k hk).2, fun e => by
                have a1 := (HO6.out.base k e).2
                have a2 : wr.heap.size + 1 ≤ k := Nat.le_trans (Nat.le_of_eq (size_alloc' wr.drew (.cells #[.int .i64 (ms : Nat)] 2)).symm) (ho1.block k hk).1
                omega⟩)
              have HP := Lib.hid HPl.out
              refine ap_one (K := cH) _ ty_rows14 rfl _ _ rfl (B := wo.heap.size) (xs := hs7) rfl h71 (⟨A9, x + 1, c9⟩ : Hd) rfl rfl (by rw [h72, List.length_map]; have := HP.out; omega) (Nat.le_trans hsz hz9) ?_
              intro v2 w7 ho2 hg2 hb2 hat2
              have HR7 : Hid (OwR 24 wo.heap.size w7 v2 ((pre ++ (sb.take (j + 1)).map fun s => cdk ++ [m1 ||| s]).map li)) := Lib.hid (by
                have hR7 := h73 w7 v2 _ (World.grownBy_alloc _ _ none) (by simp) ho2 hg2 hat2
                rw [HTj.out, List.map_append]
                rw [show [cdk ++ [ms]].map li = [li cdk ++ [(ms : Int)]] by simp [li]]
                exact hR7)
              have hgA := grown_alloc _ hg2
              have HS7 := Lib.hid ((HS6.out.below hI2).grown hgA (.inr fun e => (HA6.out _ rfl).2 e.symm))
              have HA7 : Hid (∀ g, (Value.slice (some ⟨bs, os5, none⟩) sb.length cs5).ownBlock = some g → g < w7.heap.size ∧ v2.ownBlock ≠ some g) := Lib.hid fun g hg => ⟨by have := (HA6.out g hg).1; have := hgA.size; omega, fun e => by
                rcases hat2 with e2 | e2
                · exact (HA6.out g hg).2 (e2 ▸ e)
                · rw [e2] at e
                  injection e with e
                  have := (HA6.out g hg).1
                  omega⟩
              have HB7 := Lib.hid ((bthen HB6.out hI2).trans hb2)
              clear ho1 hg1 hI1 hI2 h71 h72 h73 ho2 hg2 hb2 hat2 hgA hcs hcl2 kL3
              go_wp2
              go_roundw
              case rel => exact ⟨j + 1, by omega, by go_num, HR7.out, HS7.out, HA7.out, HB7.out⟩
              case measure => simp [intOf]; omega
            · obtain rfl : j = sb.length := by omega
              have HNx : Hid (OwR 24 wo.heap.size wr u9 ((((cd x).take (k + 1)).flatMap fun c => sb.map fun s => c ++ [m1 ||| s]).map li)) := Lib.hid (by
                rw [HTk.out]
                rw [List.take_length] at ho
                exact ho)
              clear ho hs hap hb
              go_wp2
              go_roundw
              case rel => exact ⟨k + 1, by omega, by go_num, HNx.out, HB6.out⟩
              case measure => simp [intOf]; omega
        · obtain rfl : k = (cd x).length := by omega
          have HNx : Hid (OwR 24 W.heap.size wr u9 ((cd (x + 1)).map li)) := Lib.hid (by
            rw [HCSx.out]
            rw [List.take_length] at ho
            exact ho.mono HB.out.size)
          have HBN : Hid (Below W.heap.size W wr) := Lib.hid (HB.out.trans (hb.mono HB.out.size))
          clear ho hb
          go_wp2
          go_roundw
          case rel => exact ⟨x + 1, by omega, by go_num, HNx.out, HBN.out⟩
          case measure => simp [intOf]; omega
    · obtain rfl : x = n := by omega
      have HSo := Lib.hid (impl_sortedLists (cd x) x (by omega) (HCa.out x) HCp.out (by have := HCl.out x (Nat.le_refl _); omega) (HCx.out x) _ _ _ wr ho)
      obtain ⟨Ac, cc', hcv⟩ := ho.sl2.opn
      have hcl : ((cd x).map li).length = (cd x).length := List.length_map ..
      rw [hcl] at hcv
      subst hcv
      have hC128 := HCl.out x (Nat.le_refl _)
      have HCxx := Lib.hid (HCx.out x)
      clear ho hb
      go_wp2_with fail
      refine HSo.out.mono ?_
      rintro e wz ⟨rfl, hbz⟩
      have HOz := Lib.hid (HO.out.below hbz)
      have HBz := Lib.hid (HBW.out.trans ((HB.out.mono HBW.out.size).trans (hbz.mono (Nat.le_trans HBW.out.size HB.out.size))))
      clear hbz HSo
      go_wp2
      go_loopw [14, 16, 73] (fun ov _ ix wr => ∃ k : Nat, k ≤ (cd x).length ∧ ix = .int .i64 k ∧ ObF wz.heap.size wr.heap.size wr ov (((cd x).take k).map fun c => ((x : Int), li c)) ∧ Below wz.heap.size wz wr) (fun _ _ ix _ => (cd x).length - (intOf ix).toNat)
      case atStart => exact ⟨0, Nat.zero_le _, rfl, ObF.nil _ _ _, Below.refl _ _⟩
      case round =>
        obtain ⟨k, hk, rfl, hf, hb⟩ := hrel
        have HFr := Lib.hid hf
        have HBk := Lib.hid hb
        have hsz := hb.size
        by_cases hltk : k < (cd x).length
        · obtain ⟨bc, oc, A1', n1, cc1, e1, hbc, hcc, hsc⟩ := (HOz.out.sl2).at_ (k := k) (by rw [hcl]; exact hltk)
          subst e1
          rw [List.getElem_map] at hsc
          have hcx : ((cd x)[k]'hltk).length = x := HCxx.out _ (List.getElem_mem hltk)
          have HTk : Hid (((cd x).take (k + 1)).map (fun c => ((x : Int), li c)) = (((cd x).take k).map fun c => ((x : Int), li c)) ++ [((x : Int), li ((cd x)[k]'hltk))]) := Lib.hid (by rw [List.take_succ_eq_append_getElem hltk, List.map_append]; rfl)
          have HLk : Hid ((((cd x).take k).map fun c => ((x : Int), li c)).length = k) := Lib.hid (by rw [List.length_map, List.length_take]; omega)
          have hcc' := (hb.cell (p := ⟨bc, oc + k, none⟩) hbc).trans hcc
          have hbc' := Nat.lt_of_lt_of_le hbc hb.size
          have HSc := Lib.hid (hsc.below hb)
          generalize (cd x)[k]'hltk = cdk at *
          have HCk := Lib.hid hcx
          have HLc : Hid ((li cdk).length = x) := Lib.hid (by rw [li_length]; exact hcx)
          have HCln := Lib.hid (fun W v (hv : Sl cI W v (li cdk)) => slices_Clone_int64 v (li cdk) W hv (by rw [HLc.out]; omega))
          generalize (((cd x).take k).map fun c => ((x : Int), li c)) = fs at *
          clear hf hb hsc hcx hcc
          go_wp2_with fail
          refine (HCln.out _ _ HSc.out).mono ?_
          rintro e w6 ⟨u6, rfl, ho6, hb6⟩
          have HO6 := Lib.hid ho6
          have HB6 := Lib.hid hb6
          have HFo := Lib.hid (impl_frameOf u6 (li cdk) w6 ho6.sl)
          rw [HLc.out] at HFo
          clear ho6 hb6 hcc'
          go_wp2_with fail
          refine HFo.out.mono ?_
          rintro e w7 ⟨rfl, hb7⟩
          have ho7 := HO6.out.below hb7
          have hbb := bthen HB6.out hb7
          obtain ⟨A8, c8, rfl⟩ := ho7.opn
          rw [HLc.out] at ho7 ⊢
          obtain ⟨hs8, h81, h82, h83⟩ := HFr.out.push hbb ho7 hsz (x : Int)
          have H81 := Lib.hid h81
          have H82 := Lib.hid (h82.trans HLk.out)
          have H83 := Lib.hid h83
          have HBB := Lib.hid hbb
          have hsz7 := Nat.le_trans hsz hbb.size
          clear ho7 hbb h81 h82 h83 hb7
          go_wp2_with (at_builtin; refine stopHere ?_)
          refine goHere ?_
          refine ap_one (K := cF) _ ty_frame rfl _ _ rfl (xs := hs8) rfl H81.out ((x : Int), (⟨A8, x, c8⟩ : Hd)) rfl rfl (by rw [H82.out]; omega) hsz7 ?_
          intro v2 w8 ho2 hg2 hb2 hat2
          have HF8 : Hid (ObF wz.heap.size w8.heap.size w8 v2 (((cd x).take (k + 1)).map fun c => ((x : Int), li c))) := Lib.hid (by
            rw [HTk.out]
            exact H83.out w8 v2 _ (World.grownBy_alloc _ _ none) (by simp) ho2 hg2 hat2)
          have HB8 := Lib.hid ((bthen HBk.out HBB.out).trans hb2)
          clear ho2 hg2 hb2 hat2
          go_wp2
          go_roundw
          case rel => exact ⟨k + 1, by omega, by go_num, HF8.out, HB8.out⟩
          case measure => simp [intOf]; omega
        · obtain rfl : k = (cd x).length := by omega
          rw [List.take_length] at hf
          obtain ⟨Af, cf, rfl⟩ := hf.opn
          have hfl : ((cd x).map fun c => ((x : Int), li c)).length = (cd x).length := List.length_map ..
          rw [hfl] at hf ⊢
          have HFF : Hid (ObF w.heap.size wr.heap.size wr (.slice Af (cd x).length cf) FS) := Lib.hid (by rw [HFs.out]; exact hf.mono HBz.out.size)
          have HBE : Hid (Below w.heap.size w wr) := Lib.hid (bthen HBz.out hb)
          have hle : decide (((cd x).length : Int) ≤ 200) = true := decide_eq_true (by omega)
          clear hf hb
          go_wp2
          go_ret2
          exact ⟨_, rfl, HFF.out, HBE.out⟩
end Go.Proofs.YtnolbgdbboiehaaGreatDoor
