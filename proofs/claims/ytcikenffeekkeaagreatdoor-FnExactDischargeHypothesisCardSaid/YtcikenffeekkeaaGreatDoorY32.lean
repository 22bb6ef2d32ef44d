/- Joined of several texts. -/
import Derived.Test.YtcikenffeekkeaaGreatDoorY11
import Derived.Test.YtcikenffeekkeaaGreatDoorY28
import Derived.Test.YtcikenffeekkeaaGreatDoorY31
namespace Go.Proofs.YtcikenffeekkeaaGreatDoor
/- Plain law of Hilbert proofs: the hypotheses on which each line depends. No program in sight. -/
open Go.RowKit
set_option linter.unusedVariables false
set_option linter.unusedSimpArgs false
/-- in ascending order, each once -/
def usn (xs : List Int) : List Int := Lib.compactUpTo (xs.mergeSort fun x y => decide (x ≤ y)).toArray (xs.mergeSort fun x y => decide (x ≤ y)).length
theorem usn_asc (xs : List Int) : (usn xs).Pairwise (· < ·) ∧ ∀ a, a ∈ usn xs ↔ a ∈ xs := by
  have hs : (xs.mergeSort fun x y => decide (x ≤ y)).Pairwise (· ≤ ·) := by
    have := List.pairwise_mergeSort (le := fun x y : Int => decide (x ≤ y)) (fun a b c h1 h2 => by simp at *; omega) (fun a b => by simp; omega) xs
    exact this.imp fun h => by simpa using h
  obtain ⟨h1, h2⟩ := compact_asc _ hs _ (Nat.le_refl _)
  refine ⟨h1, fun a => ?_⟩
  unfold usn
  rw [h2, List.take_length, List.mem_mergeSort]
theorem nodup_subI : ∀ (m l : List Int), l.Nodup → (∀ x ∈ l, x ∈ m) → l.length ≤ m.length
  | [], l, _, h => by
    cases l with
    | nil => exact Nat.le_refl _
    | cons x l => exact absurd (h x (List.mem_cons_self ..)) (by simp)
  | y :: m, l, hd, h => by
    have h1 := nodup_subI m (l.erase y) (hd.erase y) fun x hx => by
      have h2 := (hd.mem_erase_iff).1 hx
      rcases List.mem_cons.1 (h x h2.2) with e | e
      · exact absurd e h2.1
      · exact e
    have h2 : l.length ≤ (l.erase y).length + 1 := by
      rw [List.length_erase]
      split <;> omega
    simp only [List.length_cons]
    omega
theorem asc_nodup {l : List Int} (h : l.Pairwise (· < ·)) : l.Nodup := h.imp fun h => by omega
/-- what a line depends on, before it is put in order -/
def usr (uss : List (List Int)) (l : Ln) : List Int := if l.r = 2 then [l.f] else if l.r = 3 then uss.getD l.f.toNat [] ++ uss.getD l.s.toNat [] else if l.r = 4 then uss.getD l.f.toNat [] else []
def ussA (ls : List Ln) : List (List Int) := ls.foldl (fun uss l => uss ++ [usn (usr uss l)]) []
theorem ussA_snoc (ls : List Ln) (l : Ln) : ussA (ls ++ [l]) = ussA ls ++ [usn (usr (ussA ls) l)] := by
  unfold ussA
  rw [List.foldl_append]
  rfl
theorem ussA_succ (ls : List Ln) (k : Nat) (h : k < ls.length) : ussA (ls.take (k + 1)) = ussA (ls.take k) ++ [usn (usr (ussA (ls.take k)) ls[k])] := by
  rw [List.take_succ_eq_append_getElem h, ussA_snoc]
theorem ussA_inv (ls : List Ln) : ∀ k, k ≤ ls.length → (ussA (ls.take k)).length = k ∧
    ∀ i, ((ussA (ls.take k)).getD i []).Nodup ∧ (∀ x ∈ (ussA (ls.take k)).getD i [], x ∈ (ls.take k).map (·.f)) ∧ (((ussA (ls.take k)).getD i []).isEmpty = !((flgs (ls.take k)).getD i false))
  | 0, _ => by
    refine ⟨rfl, fun i => ?_⟩
    rw [List.take_zero]
    refine ⟨?_, ?_, ?_⟩
    · simp [ussA]
    · intro x hx; simp [ussA] at hx
    · simp [ussA, flgs]
  | k + 1, hk => by
    obtain ⟨h1, h2⟩ := ussA_inv ls k (by omega)
    have hlt : k < ls.length := by omega
    rw [ussA_succ ls k hlt, flgs_succ ls k hlt]
    have hT : (ls.take (k + 1)).map (·.f) = (ls.take k).map (·.f) ++ [ls[k].f] := by rw [List.take_succ_eq_append_getElem hlt, List.map_append]; rfl
    have hfl : (flgs (ls.take k)).length = k := by rw [flgs_len, List.length_take]; omega
    refine ⟨by rw [List.length_append, h1]; rfl, fun i => ?_⟩
    by_cases hi : i < k
    · have e1 : (ussA (ls.take k) ++ [usn (usr (ussA (ls.take k)) ls[k])]).getD i [] = (ussA (ls.take k)).getD i [] := by
        rw [List.getD_eq_getElem?_getD, List.getElem?_append_left (by omega), List.getD_eq_getElem?_getD]
      have e2 : (flgs (ls.take k) ++ [flg (flgs (ls.take k)) ls[k]]).getD i false = (flgs (ls.take k)).getD i false := by
        rw [List.getD_eq_getElem?_getD, List.getElem?_append_left (by omega), List.getD_eq_getElem?_getD]
      rw [e1, e2, hT]
      exact ⟨(h2 i).1, fun x hx => List.mem_append_left _ ((h2 i).2.1 x hx), (h2 i).2.2⟩
    · by_cases hik : i = k
      · subst hik
        have e1 : (ussA (ls.take i) ++ [usn (usr (ussA (ls.take i)) ls[i])]).getD i [] = usn (usr (ussA (ls.take i)) ls[i]) := by
          rw [List.getD_eq_getElem?_getD, List.getElem?_append_right (by omega), h1, Nat.sub_self]; rfl
        have e2 : (flgs (ls.take i) ++ [flg (flgs (ls.take i)) ls[i]]).getD i false = flg (flgs (ls.take i)) ls[i] := by
          rw [List.getD_eq_getElem?_getD, List.getElem?_append_right (by omega), hfl, Nat.sub_self]; rfl
        rw [e1, e2, hT]
        obtain ⟨a1, a2⟩ := usn_asc (usr (ussA (ls.take i)) ls[i])
        have hsub : ∀ x ∈ usr (ussA (ls.take i)) ls[i], x ∈ (ls.take i).map (·.f) ++ [ls[i].f] := by
          intro x hx
          unfold usr at hx
          split at hx
          · exact List.mem_append_right _ hx
          · split at hx
            · rcases List.mem_append.1 hx with hx | hx
              · exact List.mem_append_left _ ((h2 _).2.1 x hx)
              · exact List.mem_append_left _ ((h2 _).2.1 x hx)
            · split at hx
              · exact List.mem_append_left _ ((h2 _).2.1 x hx)
              · cases hx
        have hem : (usn (usr (ussA (ls.take i)) ls[i])).isEmpty = (usr (ussA (ls.take i)) ls[i]).isEmpty := by
          rw [Bool.eq_iff_iff, List.isEmpty_iff, List.isEmpty_iff]
          constructor
          · intro h; exact List.eq_nil_iff_forall_not_mem.2 fun x hx => by have := (a2 x).2 hx; rw [h] at this; cases this
          · intro h; exact List.eq_nil_iff_forall_not_mem.2 fun x hx => by have := (a2 x).1 hx; rw [h] at this; cases this
        refine ⟨asc_nodup a1, fun x hx => hsub x ((a2 x).1 hx), ?_⟩
        rw [hem]
        unfold usr flg
        split
        · rfl
        · split
          · have hap : ∀ a b : List Int, (a ++ b).isEmpty = (a.isEmpty && b.isEmpty) := fun a b => by cases a <;> simp
            rw [hap, (h2 _).2.2, (h2 _).2.2, Bool.not_or]
          · split
            · exact (h2 _).2.2
            · rfl
      · have e1 : (ussA (ls.take k) ++ [usn (usr (ussA (ls.take k)) ls[k])]).getD i [] = [] := by
          rw [List.getD_eq_getElem?_getD, List.getElem?_eq_none (by rw [List.length_append, h1]; simp; omega)]; rfl
        have e2 : (flgs (ls.take k) ++ [flg (flgs (ls.take k)) ls[k]]).getD i false = false := by
          rw [List.getD_eq_getElem?_getD, List.getElem?_eq_none (by rw [List.length_append, hfl]; simp; omega)]; rfl
        rw [e1, e2]
        exact ⟨List.nodup_nil, fun x hx => (by cases hx), rfl⟩
theorem ussA_len (ls : List Ln) (k : Nat) (hk : k ≤ ls.length) (i : Nat) : ((ussA (ls.take k)).getD i []).length ≤ k := by
  obtain ⟨h1, h2, h3⟩ := (ussA_inv ls k hk).2 i
  have := nodup_subI _ _ h1 h2
  rw [List.length_map, List.length_take] at this
  omega
/- Contracts of the program: what a line depends on. -/
open Go.RowKit
set_option linter.unusedVariables false
set_option linter.unusedSimpArgs false
/-- the premises of a line -/
def prmL (l : Ln) : List Int := if l.r = 3 then [l.f, l.s] else if l.r = 4 then [l.f] else []
theorem impl_premises (l : Ln) (v : Value) (w : World) :
    Calls Tryz.prog 68 #[.agg #[.int .i64 l.r, .int .i64 l.f, .int .i64 l.s, v]] w fun e w' => ∃ r, e = .returned r ∧ Ow cI 2 w.heap.size w' r (prmL l) ∧ Below w.heap.size w w' := by
  obtain ⟨r, f, s, x⟩ := l
  have hb0 := below_alloc' w (.cells #[.int .i64 r, .int .i64 f, .int .i64 s, v] 46)
  have HK := Lib.hid (Blk.new w 46 #[.int .i64 r, .int .i64 f, .int .i64 s, v])
  have HB := Lib.hid hb0
  have hz := hb0.size
  clear hb0
  by_cases h3 : r = 3
  · subst h3
    have HP : Hid (prmL ⟨3, f, s, x⟩ = [f, s]) := Lib.hid rfl
    have k0 := HK.out.cell 0
    have k1 := HK.out.cell 1
    have k2 := HK.out.cell 2
    have l1 := HK.out.lt
    go_enter Tryz.func68, Tryz.ntmps68
    go_upto_region 1 with fail
    generalize World.alloc w _ = w1 at *
    have HO := Lib.hid (Ow.lit (K := cI) (w := w1) (e := 2) (B := w.heap.size) (cs := #[.int .i64 f, .int .i64 s]) (n := 2) [f, s] rfl rfl (by omega))
    have HB2 := Lib.hid (bthen HB.out (below_alloc' w1 (.cells #[.int .i64 f, .int .i64 s] 2)))
    go_wp2
    go_ret
    exact ⟨_, rfl, by rw [HP.out]; exact HO.out, HB2.out⟩
  by_cases h4 : r = 4
  · subst h4
    have HP : Hid (prmL ⟨4, f, s, x⟩ = [f]) := Lib.hid rfl
    have k0 := HK.out.cell 0
    have k1 := HK.out.cell 1
    have l1 := HK.out.lt
    clear h3
    go_enter Tryz.func68, Tryz.ntmps68
    go_upto_region 1 with fail
    generalize World.alloc w _ = w1 at *
    have HO := Lib.hid (Ow.lit (K := cI) (w := w1) (e := 2) (B := w.heap.size) (cs := #[.int .i64 f]) (n := 1) [f] rfl rfl (by omega))
    have HB2 := Lib.hid (bthen HB.out (below_alloc' w1 (.cells #[.int .i64 f] 2)))
    go_wp2
    go_ret
    exact ⟨_, rfl, by rw [HP.out]; exact HO.out, HB2.out⟩
  have HP : Hid (prmL ⟨r, f, s, x⟩ = []) := Lib.hid (by unfold prmL; simp only; rw [if_neg h3, if_neg h4])
  have e3 : (r == 3) = false := by simpa using h3
  have e4 : (r == 4) = false := by simpa using h4
  have k0 := HK.out.cell 0
  have l1 := HK.out.lt
  clear h3 h4
  go_enter Tryz.func68, Tryz.ntmps68
  go_upto_region 1 with fail
  generalize World.alloc w _ = w1 at *
  go_wp2
  go_ret
  exact ⟨_, rfl, by rw [HP.out]; exact Ow.nil _ _, HB.out⟩
/-- an owned table of lists; the lists lie in other blocks than the headers -/
def UsO (B : Nat) (w : World) (v : Value) (uss : List (List Int)) : Prop :=
  ∃ hs : List Hd, Ow cH 54 B w v hs ∧ hs.length = uss.length ∧ ∀ i (p : i < hs.length) (q : i < uss.length), Sl cI w hs[i].val uss[i] ∧ ∀ k, hs[i].val.ownBlock = some k → v.ownBlock ≠ some k ∧ B ≤ k ∧ k < w.heap.size
theorem UsO.nil (B : Nat) (w : World) : UsO B w (.slice none 0 0) [] := ⟨[], Ow.nil _ _, rfl, fun i p => by simp at p⟩
theorem UsO.below {B : Nat} {w w' : World} {v : Value} {uss : List (List Int)} (h : UsO B w v uss) (hb : Below w.heap.size w w') : UsO B w' v uss := by
  obtain ⟨hs, h1, h2, h3⟩ := h
  exact ⟨hs, h1.below hb, h2, fun i p q => ⟨(h3 i p q).1.below hb, fun k hk => ⟨((h3 i p q).2 k hk).1, ((h3 i p q).2 k hk).2.1, Nat.lt_of_lt_of_le ((h3 i p q).2 k hk).2.2 hb.size⟩⟩⟩
theorem UsO.usR {B : Nat} {w : World} {v : Value} {uss : List (List Int)} (h : UsO B w v uss) {em : List Bool} (hl : em.length = uss.length) (he : ∀ i (h1 : i < uss.length) (h2 : i < em.length), (uss[i]).isEmpty = !em[i]) : UsR w v em := by
  obtain ⟨hs, h1, h2, h3⟩ := h
  refine ⟨hs, h1.sl, by omega, fun i p q => ?_⟩
  obtain ⟨A, c, e⟩ := (h3 i p (by omega)).1.opn
  have en : hs[i].n = (uss[i]'(by omega)).length := by
    have : hs[i].val = .slice hs[i].a hs[i].n hs[i].c := rfl
    rw [this] at e
    injection e
  rw [en, ← he i (by omega) q]
  cases uss[i]'(by omega) with
  | nil => rfl
  | cons x l => simp; omega
theorem UsO.opn {B : Nat} {w : World} {v : Value} {uss : List (List Int)} (h : UsO B w v uss) : ∃ A c, v = .slice A uss.length c := by
  obtain ⟨hs, h1, h2, h3⟩ := h
  rw [← h2]; exact h1.opn
theorem UsO.at_ {B : Nat} {w : World} {A : Option Addr} {n c : Nat} {uss : List (List Int)} (h : UsO B w (.slice A n c) uss) {k : Nat} (hk : k < uss.length) :
    ∃ b o Ai ci, A = some ⟨b, o, none⟩ ∧ b < w.heap.size ∧ w.cell? ⟨b, o + k, none⟩ = some (.slice Ai uss[k].length ci) ∧ Sl cI w (.slice Ai uss[k].length ci) uss[k] := by
  obtain ⟨hs, h1, h2, h3⟩ := h
  have hk' : k < hs.length := by omega
  obtain ⟨b, o, e1, hb, hc⟩ := h1.sl.cell hk'
  have c0 := hc 0 hs[k].val rfl
  have a2 := (h3 k hk' hk).1
  obtain ⟨Ai, ci, e2⟩ := a2.opn
  rw [e2] at a2 c0
  exact ⟨b, o, Ai, ci, e1, hb, by simpa [cH] using c0, a2⟩
/-- one list more, in a younger block -/
theorem UsO.push {B : Nat} {w0 w : World} {v : Value} {uss : List (List Int)} (h : UsO B w0 v uss) (hB0 : B ≤ w0.heap.size) (hb : Below w0.heap.size w0 w) {A : Option Addr} {n c : Nat} {xs : List Int} (hu : Ow cI 2 w0.heap.size w (.slice A n c) xs) :
    ∃ hs : List Hd, Ow cH 54 B w v hs ∧ hs.length = uss.length ∧ ∀ w' v' W, w.grownBy W none → W.heap.size = w.heap.size + 1 → Ow cH 54 B w' v' (hs ++ [⟨A, n, c⟩]) → W.grownBy w' v.ownBlock →
      (v'.ownBlock = v.ownBlock ∨ v'.ownBlock = some (w.heap.size + 1)) → UsO B w' v' (uss ++ [xs]) := by
  obtain ⟨hs, h1, h2, h3⟩ := h
  refine ⟨hs, h1.below hb, h2, fun w' v' W hw hWz ho hg hat => ?_⟩
  have hv : ∀ k, v.ownBlock = some k → k < w0.heap.size := fun k hk => (h1.block k hk).2
  have hsz := hb.size
  have hgz := hg.size
  have key : ∀ (u : Value) (ys : List Int), Sl cI w u ys → (∀ k, u.ownBlock = some k → B ≤ k ∧ k < w.heap.size ∧ v.ownBlock ≠ some k) →
      Sl cI w' u ys ∧ ∀ k, u.ownBlock = some k → v'.ownBlock ≠ some k ∧ B ≤ k ∧ k < w'.heap.size := by
    intro u ys hu hk
    refine ⟨(hu.grown hw ?_).grown hg ?_, fun k e => ⟨fun e3 => ?_, (hk k e).1, by have := (hk k e).2.1; omega⟩⟩
    · cases hq : u.ownBlock with
      | none => exact .inl rfl
      | some k => exact .inr (by simp)
    · cases hq : u.ownBlock with
      | none => exact .inl rfl
      | some k => exact .inr fun e => (hk k hq).2.2 e.symm
    · rcases hat with e2 | e2
      · exact (hk k e).2.2 (e2 ▸ e3)
      · rw [e2] at e3; injection e3 with e3; have := (hk k e).2.1; omega
  refine ⟨_, ho, by simp [h2], fun i p q => ?_⟩
  by_cases hi : i < hs.length
  · have e1 : (hs ++ [(⟨A, n, c⟩ : Hd)])[i] = hs[i] := List.getElem_append_left hi
    have e2 : (uss ++ [xs])[i] = uss[i]'(by omega) := List.getElem_append_left (by omega)
    obtain ⟨a1, a2⟩ := h3 i hi (by omega)
    rw [e1, e2]
    exact key _ _ (a1.below hb) fun k hk => ⟨(a2 k hk).2.1, by have := (a2 k hk).2.2; omega, (a2 k hk).1⟩
  · have hi' : i = hs.length := by simp at p; omega
    subst hi'
    have e1 : (hs ++ [(⟨A, n, c⟩ : Hd)])[hs.length]'p = ⟨A, n, c⟩ := by simp
    have e2 : (uss ++ [xs])[hs.length]'q = xs := by rw [List.getElem_append_right (by omega)]; simp [h2]
    rw [e1, e2]
    exact key _ _ hu.sl fun k hk => ⟨by have := (hu.block k hk).1; omega, (hu.block k hk).2, fun e => by have := hv k e; have := (hu.block k hk).1; omega⟩
/-- a store to an elder block -/
theorem UsO.far {B : Nat} {w : World} {v : Value} {uss : List (List Int)} (h : UsO B w v uss) {p : Addr} (hp : p.block < B) (u : Value) : UsO B (w.setCell p u) v uss := by
  obtain ⟨hs, h1, h2, h3⟩ := h
  refine ⟨hs, h1.setBelow hp u, h2, fun i a b => ⟨?_, fun k hk => ⟨((h3 i a b).2 k hk).1, ((h3 i a b).2 k hk).2.1, by have := ((h3 i a b).2 k hk).2.2; simpa [World.setCell] using this⟩⟩⟩
  refine (h3 i a b).1.keptAt (by simp [World.setCell]) fun q hq hv => ?_
  apply World.cell?_setCell_other
  intro e
  have h4 := ((h3 i a b).2 _ hv).2.1
  have e2 : q.block = p.block := by rw [e]
  omega
end Go.Proofs.YtcikenffeekkeaaGreatDoor
