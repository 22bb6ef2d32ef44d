/- Contracts for FnTraces: both sides as one, and what they yield for letterless formulas. -/
import Derived.Test.YtgcoohlakcncbaaGreatM32H
import Derived.Test.YtgcoohlakcncbaaGreat12M
import Derived.Test.YtgcoohlakcncbaaGreat06u
import Derived.Test.YtgcoohlakcncbaaGreat33ww
namespace Go.Proofs.YtgcoohlakcncbaaGreat
open Go.RowKit
set_option linter.unusedVariables false
set_option linter.unusedSimpArgs false
def TqP (F : FuncId) (xs : List Nd) (b : Bool) (T : List Int) (k : Int) : Prop :=
  ∀ (v : Value) (w : World), Sl cN w v xs → Calls Tryz.prog F #[v] w fun e w' => ∃ A c, e = .returned (.tuple #[.agg #[.bool b, .slice A T.length c], .int .i64 k]) ∧ Sl cI w' (.slice A T.length c) T ∧ Below w.heap.size w w'
theorem tq_both (xs : List Nd) (hl : xs.length ≤ 1048576) : ∃ (b : Bool) (T : List Int) (k : Int), T.length ≤ 61 ∧ TqP 38 xs b T k ∧ TqP 41 xs b T k ∧
    (k = 0 → ∃ f : Fm, f.novar = true ∧ xs = enc f ∧ (enc f).length ≤ 40 ∧ b = (!rk f 0 60) ∧ T = trOf (rk f 0)) := by
  by_cases hc : lcode [xs] = 0
  · obtain ⟨f, rfl, hv, hl40⟩ := lcode_one hc
    exact ⟨_, _, 0, trOf_length _, fun v w h => (impl_TraceOf_ok v f w h hl40 hc).mono fun e w' ⟨u, he, ho, hb⟩ => by obtain ⟨A, c, rfl⟩ := ho.opn; exact ⟨A, c, he, ho.sl, hb⟩,
      fun v w h => (spec_TraceOf_ok v f w h hl40 hc hv).mono fun e w' ⟨u, he, ho, hb⟩ => by obtain ⟨A, c, rfl⟩ := ho.opn; exact ⟨A, c, he, ho.sl, hb⟩, fun _ => ⟨f, hv, rfl, hl40, rfl, rfl⟩⟩
  · exact ⟨false, [], lcode [xs], by simp, fun v w h => (impl_TraceOf_bad v xs w h hl hc).mono fun e w' ⟨he, hb⟩ => ⟨none, 0, he, Sl.nil, hb⟩,
      fun v w h => (spec_TraceOf_bad v xs w h hl hc).mono fun e w' ⟨he, hb⟩ => ⟨none, 0, he, Sl.nil, hb⟩, fun h => absurd h hc⟩
def LnP (F : FuncId) (xs : List Nd) (R : List Nd) (k : Int) : Prop :=
  ∀ (v : Value) (w : World), Sl cN w v xs → Calls Tryz.prog F #[v] w fun e w' => ∃ A c, e = .returned (.tuple #[.slice A R.length c, .int .i64 k]) ∧ Sl cN w' (.slice A R.length c) R ∧ Below w.heap.size w w'
/-- the normal form of a letterless formula -/
theorem ln_both {f : Fm} (hv : f.novar = true) (hl : (enc f).length ≤ 40) : ∃ (R : List Nd) (k : Int), R.length ≤ 40 ∧ LnP 51 (enc f) R k ∧ LnP 52 (enc f) R k ∧
    ((k = 3 ∧ R = []) ∨ (k = 0 ∧ ∃ l : Fm, l.novar = true ∧ R = enc l ∧ alike (rk f 0) (rk l 0) = true)) := by
  have hc := lcode_novar f hv hl
  refine ⟨madeL (outL (!rk f 0 60) (trOf (rk f 0))), madeC (outL (!rk f 0 60) (trOf (rk f 0))), madeL_length _, fun v w h => (impl_LetterlessNormal_ok v f w h hl hc).mono ?_, fun v w h => (spec_LetterlessNormal_ok v f w h hl hc hv).mono ?_, ?_⟩
  · rintro e w' ⟨u, he, ho, hb⟩
    obtain ⟨A, c, rfl⟩ := ho.opn
    exact ⟨A, c, he, ho.sl, hb⟩
  · rintro e w' ⟨u, he, ho, hb⟩
    obtain ⟨A, c, rfl⟩ := ho.opn
    exact ⟨A, c, he, ho.sl, hb⟩
  · unfold madeC madeL
    by_cases h40 : (outL (!rk f 0 60) (trOf (rk f 0))).length ≤ 40
    · rw [if_pos h40, if_pos h40]
      exact .inr ⟨rfl, oF (!rk f 0 60) (trOf (rk f 0)), oF_novar _ _, (oF_enc _ _).symm, (alike_iff _ _).2 fun n hn => (oF_at _ hn).symm⟩
    · rw [if_neg h40, if_neg h40]
      exact .inl ⟨rfl, rfl⟩
theorem imt_all {f : Fm} (hv : f.novar = true) (hl : (enc f).length ≤ 40) : ∃ (y : Bool) (cd : Int), imtR [] [f] = #[.bool y, .int .i64 cd] ∧ ((cd = 0 ∧ y = allR (rk f 0)) ∨ cd = 3) := by
  have e : thB [] [f] = allR (rk f 0) := by
    rw [Bool.eq_iff_iff, all_thB hv hl, allR, List.all_eq_true]
    exact ⟨fun h n hn => h n (List.mem_range.1 hn), fun h n hn => h n (List.mem_range.2 hn)⟩
  by_cases hs : scd [] [f] = 0
  · exact ⟨thB [] [f], 0, by unfold imtR; rw [if_pos hs], .inl ⟨rfl, e⟩⟩
  · have h3 : scd [] [f] = 3 := by
      unfold scd at hs ⊢
      split
      · rfl
      · rename_i hh; rw [if_neg hh] at hs; exact absurd rfl hs
    exact ⟨false, 3, by unfold imtR; rw [if_neg hs, h3], .inr rfl⟩
theorem ame_pack {f l : Fm} (hf : f.novar = true) (hg : l.novar = true) (hlf : (enc f).length ≤ 40) (hlg : (enc l).length ≤ 40) (h : alike (rk f 0) (rk l 0) = true) : ∃ (y : Bool) (cd : Int), ameR f l = #[.bool y, .int .i64 cd] ∧ ((cd = 0 ∧ y = true) ∨ cd = 3) := by
  have ha := (alike_iff _ _).1 h
  unfold ameR
  split
  · exact ⟨_, 0, rfl, .inl ⟨rfl, by rw [alike_thB hf hg hlf hlg ha, alike_thB hg hf hlg hlf fun n hn => (ha n hn).symm]; rfl⟩⟩
  · exact ⟨false, 3, rfl, .inr rfl⟩
/-- the first false rank, or none -/
theorem ff_pack (p : Nat → Bool) : (allR p = true ∧ ffOut p = (0, 4)) ∨ (allR p = false ∧ ∃ j : Nat, j < 61 ∧ p j = false ∧ ffOut p = ((j : Int), 0)) := by
  cases h : allR p
  · refine .inr ⟨rfl, ?_⟩
    unfold allR at h
    have h2 : ¬ ∀ n, n < 61 → p n = true := fun hh => by
      rw [List.all_eq_true.2 fun n hn => hh n (List.mem_range.1 hn)] at h; cases h
    obtain ⟨j, hj, hp, hlow⟩ : ∃ j, j < 61 ∧ p j = false ∧ ∀ n, n < j → p n = true := by
      refine Classical.byContradiction fun hn => h2 fun n => ?_
      induction n using Nat.strongRecOn with
      | _ n ih =>
        intro hn61
        cases hp : p n with
        | true => rfl
        | false => exact absurd ⟨n, hn61, hp, fun m hm => ih m hm (by omega)⟩ hn
    exact ⟨j, hj, hp, by unfold ffOut; rw [ffI_some p j hj hlow hp, if_neg (by omega)]⟩
  · refine .inl ⟨rfl, ?_⟩
    unfold allR at h
    have := List.all_eq_true.1 h
    unfold ffOut
    rw [ffI_none p fun n hn => this n (List.mem_range.2 hn), if_pos (by omega)]
theorem chL_8 : chL 8 = li chN := by decide
theorem chN_md : MdN chN usZ := by
  refine ⟨⟨by decide, by decide⟩, by decide, by decide⟩
theorem chN_ok : mdOk chN.length (li chN) (li usZ) = true := by decide
theorem chain_I (w : World) : Calls Tryz.prog 42 #[.int .i64 8] w fun e w' => ∃ A c, e = .returned (.tuple #[.agg #[.int .i64 8, .slice A 8 c], .int .i64 0]) ∧ Sl cI w' (.slice A 8 c) (li chN) ∧ Below w.heap.size w w' :=
  (impl_ChainFrame 8 w (by decide)).mono fun e w' ⟨v, he, ho, hb⟩ => by
    rw [chL_8] at ho
    obtain ⟨A, c, rfl⟩ := ho.opn
    exact ⟨A, c, he, ho.sl, hb⟩
theorem chain_S (w : World) : Calls Tryz.prog 43 #[.int .i64 8] w fun e w' => ∃ A c, e = .returned (.tuple #[.agg #[.int .i64 8, .slice A 8 c], .int .i64 0]) ∧ Sl cI w' (.slice A 8 c) (li chN) ∧ Below w.heap.size w w' :=
  (spec_ChainFrame 8 w (by decide)).mono fun e w' ⟨v, he, ho, hb⟩ => by
    rw [chL_8] at ho
    obtain ⟨A, c, rfl⟩ := ho.opn
    exact ⟨A, c, he, ho.sl, hb⟩
/-- the truth set on the chain -/
theorem chain_T {f : Fm} (hv : f.novar = true) (hl : (enc f).length ≤ 40) (A0 A1 : Option Addr) (c0 c1 : Nat) (v : Value) (w : World) (h0 : Sl cI w (.slice A0 8 c0) (li chN)) (h1 : Sl cI w (.slice A1 6 c1) (li usZ)) (h : Sl cN w v (enc f)) :
    Calls Tryz.prog 44 #[.agg #[.int .i64 8, .slice A0 8 c0, .slice A1 6 c1], v] w fun e w' => e = .returned (.tuple #[.int .i64 (tv chN usZ f : Nat), .int .i64 0]) ∧ Below w.heap.size w w' := by
  have hok := novar_ok f hv
  exact impl_TruthSet_ok chN usZ f A0 A1 c0 c1 v w ⟨h0, h1⟩ chN_md h hok hl chN_ok ((isF_iff _).2 ⟨f, hok, rfl, hl⟩)
def mkzT (n : Nat) : Array Value := (List.replicate n (Value.int .i64 0)).toArray
theorem mkzT_flat (n : Nat) : flat cI (List.replicate n 0) = (mkzT n).toList := by rw [flat_cI]; unfold mkzT; rw [List.map_replicate]
theorem run_mkzT (n : Nat) (h : n ≤ 1048576) (w : World) :
    (Instr.makeSlice 50 (.int .i64 (n : Int)) (.int .i64 (n : Int))).run Tryz.prog w = .ok (.slice (some ⟨w.heap.size, 0, none⟩) n n) (w.alloc (.cells (mkzT n) 2)) := by
  obtain ⟨i, hi, hz, hsize, hby⟩ := ty_int64.info
  have := run_make (P := Tryz.prog) w 50 2 i _ ty_int64.under hi hz .i64 .i64 (n : Int) (n : Int) (by omega) (Int.le_refl _) (by rw [hby]; omega) (by omega)
  have e : madeCells (Value.int .i64 0).cells ((n : Int).toNat * i.size) = mkzT n := by
    rw [hsize, Int.toNat_natCast, Nat.mul_one]
    apply Array.ext (by simp [madeCells, mkzT])
    intro j h1 h2
    simp [madeCells, mkzT, Value.cells, Nat.mod_one]
  rw [this, e, Int.toNat_natCast]
theorem Ow.mkzT {B : Nat} (w : World) (n g : Nat) (hg : g = w.heap.size) (hB : B ≤ g) (h : n ≤ 1048576) : Ow cI 2 B (w.alloc (.cells (mkzT n) 2)) (.slice (some ⟨g, 0, none⟩) n n) (List.replicate n 0) :=
  Ow.lit' (List.replicate n (0 : Int)) hg (by simp) (mkzT_flat n) hB (by simp; omega)
theorem lcode_2 {xs ys : List Nd} (h : lcode [xs] = 0) (h' : lcode [ys] = 0) : lcode [xs, ys] = 0 := by
  unfold lcode at h h' ⊢
  simp only [List.all_cons, List.all_nil, Bool.and_true] at h h' ⊢
  cases e1 : isF xs <;> cases e2 : letterless xs <;> cases e3 : isF ys <;> cases e4 : letterless ys <;> simp_all
theorem laws_say5 (f : Fm) (v : Value) (w : World) (h : Sl cN w v (enc f)) (hl : (enc f).length ≤ 40) (hok : f.ok = true) :
    Calls Tryz.prog 20 #[v] w fun e w' => e = .returned (.string (txt f)) ∧ Below w.heap.size w w' := by
  have e1 : isF (enc f) = true := (isF_iff _).2 ⟨f, hok, rfl, hl⟩
  have HI := Lib.hid (e1 ▸ spec_l02Is v (enc f) w h (by omega))
  have HT := Lib.hid (spec_l02Text f v w h (by omega) hok)
  have HF : Hid (Calls Tryz.prog 90 #[v] w fun e w' => e = .returned (.tuple #[.string (txt f), .int .i64 0]) ∧ Below w.heap.size w w') := by
    refine Lib.hid ?_
    obtain ⟨A, c, rfl⟩ := h.opn
    clear h hl hok e1
    go_enter Tryz.func90, Tryz.ntmps90
    go_wp2_with fail
    refine HI.out.mono ?_
    rintro e w1 ⟨rfl, rfl⟩
    go_wp2_with fail
    refine HT.out.mono ?_
    rintro e w1 ⟨rfl, hb⟩
    have B := Lib.hid hb
    clear hb
    go_wp2
    refine bodyPost_ret (v := .tuple #[.string (txt f), .int .i64 0]) (by simp [results, Tryz.results90, go_sem]) rfl ⟨rfl, B.out⟩
  clear h hl hok e1 HI HT
  go_enter Tryz.func20, Tryz.ntmps20
  go_wp2_with fail
  refine HF.out.mono ?_
  rintro e w1 ⟨rfl, hb⟩
  have B := Lib.hid hb
  clear hb
  go_wp2
  go_ret
  exact ⟨rfl, B.out⟩
end Go.Proofs.YtgcoohlakcncbaaGreat
