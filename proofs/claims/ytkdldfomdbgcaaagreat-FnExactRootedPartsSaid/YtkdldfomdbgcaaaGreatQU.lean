/- Joined of several texts: 07q, 07r, 07s, 07t, 07u. -/
import Derived.Test.YtkdldfomdbgcaaaGreat05f
import Derived.Test.YtkdldfomdbgcaaaGreatSA
import Derived.Test.YtkdldfomdbgcaaaGreatAN2
import Derived.StillTailTactics
import Derived.Deep.RegionLaw
namespace Go.Proofs.YtkdldfomdbgcaaaGreat
open Go.RowKit
set_option linter.unusedVariables false
set_option linter.unusedSimpArgs false
/- Contracts of chapter 7, of the program: slices.Max, classCount, mapMask, quotientRelation, frameOf. -/
/- Contracts of chapter 7, of the program: quotientRelation. -/
/- Contracts of chapter 7, of the program: quotientModel. -/
/-- the classes of a model, and their number -/
def qcl (ns us : List Nat) : List Nat := (bcl ns us ns.length).1
def qn (ns us : List Nat) : Nat := mx (qcl ns us) (qcl ns us).length
theorem qcl_length (ns us : List Nat) : (qcl ns us).length = ns.length := dvd_length _ _
theorem qcl_lt (ns us : List Nat) (h8 : ns.length ≤ 8) : ∀ c ∈ qcl ns us, c < 8 := fun c hc => by
  have h1 := dvd_lt _ _ c hc
  have h2 := dvd_count (fun y => (bnd ns us ns us 16).getD y 0) ns.length
  omega
theorem qn_le (ns us : List Nat) (h8 : ns.length ≤ 8) : qn ns us ≤ 8 := mx_le _ 8 _ fun i hi => qcl_lt ns us h8 _ (getD_mem hi)
theorem qvl_take (cl us : List Nat) {j : Nat} (h : j < us.length) : (qvl cl us).take (j + 1) = (qvl cl us).take j ++ [img (pw cl) (us.getD j 0)] := by
  rw [List.take_succ_eq_append_getElem (by rw [qvl_length]; exact h)]
  congr 2
  simp [qvl, h]
/- Contracts of QuotientModel, of the program. -/
/-- what a Model that is a result holds: its lists lie in memory of their own, the one below H, the other from H on -/
def MdR (w w' : World) (u1 u2 : Value) (xs ys : List Int) : Prop := ∃ H, w.heap.size ≤ H ∧ H ≤ w'.heap.size ∧ Ob cI 2 w.heap.size H w' u1 xs ∧ Ob cI 2 H w'.heap.size w' u2 ys
/- Contracts of chapter 7, of the reference: l07Quotient, QuotientModel. -/
/-- the cells of make([]int64, n) -/
def mkz (n : Nat) : Array Value := (List.replicate n (Value.int .i64 0)).toArray
theorem mkz_flat (n : Nat) : flat cI (List.replicate n 0) = (mkz n).toList := by rw [flat_cI]; unfold mkz; rw [List.map_replicate]
theorem run_mkz (n : Nat) (h : n ≤ 1048576) (w : World) :
    (Instr.makeSlice 22 (.int .i64 (n : Int)) (.int .i64 (n : Int))).run Tryz.prog w = .ok (.slice (some ⟨w.heap.size, 0, none⟩) n n) (w.alloc (.cells (mkz n) 2)) := by
  obtain ⟨i, hi, hz, hsize, hby⟩ := ty_int64.info
  have := run_make (P := Tryz.prog) w 22 2 i _ ty_int64.under hi hz .i64 .i64 (n : Int) (n : Int) (by omega) (Int.le_refl _) (by rw [hby]; omega) (by omega)
  have e : madeCells (Value.int .i64 0).cells ((n : Int).toNat * i.size) = mkz n := by
    rw [hsize, Int.toNat_natCast, Nat.mul_one]
    apply Array.ext (by simp [madeCells, mkz])
    intro j h1 h2
    simp [madeCells, mkz, Value.cells, Nat.mod_one]
  rw [this, e, Int.toNat_natCast]
theorem Ow.mkz {B : Nat} (w : World) (n g : Nat) (hg : g = w.heap.size) (hB : B ≤ g) (h : n ≤ 1048576) : Ow cI 2 B (w.alloc (.cells (mkz n) 2)) (.slice (some ⟨g, 0, none⟩) n n) (List.replicate n 0) :=
  Ow.lit' (List.replicate n (0 : Int)) hg (by simp) (mkz_flat n) hB (by simp; omega)
end Go.Proofs.YtkdldfomdbgcaaaGreat
