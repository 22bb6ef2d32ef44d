/- Contracts of chapter 14, of the program: newFilter. -/
import Derived.Test.YtboldkahppdmbaaGreatDoor14a
import Derived.Test.YtboldkahppdmbaaGreatDoorEC
import Derived.Test.YtboldkahppdmbaaGreatDoorFB
import Derived.Test.YtboldkahppdmbaaGreatDoorSB
namespace Go.Proofs.YtboldkahppdmbaaGreatDoor
open Go.RowKit
set_option linter.unusedVariables false
set_option linter.unusedSimpArgs false
theorem find_congr {p q : Nat → Bool} : ∀ {l : List Nat}, (∀ a ∈ l, p a = q a) → l.find? p = l.find? q := by
  intro l
  induction l with
  | nil => intro _; rfl
  | cons a l ih =>
    intro h
    rw [List.find?_cons, List.find?_cons, h a List.mem_cons_self, ih fun b hb => h b (List.mem_cons_of_mem _ hb)]
theorem dvd_congr {k1 k2 : Nat → Nat} (x : Nat) (h : ∀ y, y < x → k1 y = k2 y) : dvd k1 x = dvd k2 x := by
  induction x with
  | zero => rfl
  | succ x ih =>
    have ih := ih fun y hy => h y (by omega)
    rw [dvd, dvd, ih, h x (by omega), find_congr (q := fun y => decide (k2 y = k2 x)) fun a ha => by rw [h a (by have := List.mem_range.1 ha; omega)]]
/-- pairs of naturals as pairs of int64s -/
def lp (l : List (Nat × Nat)) : List (Int × Int) := l.map fun e => ((e.1 : Int), (e.2 : Int))
theorem lp_length (l : List (Nat × Nat)) : (lp l).length = l.length := by simp [lp]
theorem lp_append (a b : List (Nat × Nat)) : lp (a ++ b) = lp a ++ lp b := by simp [lp]
/-- the keys of the worlds after i parts -/
def kyl (ns us : List Nat) (f : Fm) (i : Nat) : List ByteArray := (List.range ns.length).map fun x => ks (fun j => tb ns us f j x) i
theorem kyl_length (ns us : List Nat) (f : Fm) (i : Nat) : (kyl ns us f i).length = ns.length := by simp [kyl]
theorem kyl_zero (ns us : List Nat) (f : Fm) : kyl ns us f 0 = List.replicate ns.length ⟨#[]⟩ := by
  apply List.ext_getElem (by simp [kyl])
  intro i h1 h2
  simp [kyl, ks]
/-- the same, the first x worlds after one part more -/
def kyp (ns us : List Nat) (f : Fm) (i x : Nat) : List ByteArray := (List.range ns.length).map fun y => ks (fun j => tb ns us f j y) (if y < x then i + 1 else i)
theorem kyp_length (ns us : List Nat) (f : Fm) (i x : Nat) : (kyp ns us f i x).length = ns.length := by simp [kyp]
theorem kyp_zero (ns us : List Nat) (f : Fm) (i : Nat) : kyp ns us f i 0 = kyl ns us f i := by simp [kyp, kyl]
theorem kyp_end (ns us : List Nat) (f : Fm) (i : Nat) : kyp ns us f i ns.length = kyl ns us f (i + 1) := by
  unfold kyp kyl
  refine List.map_congr_left fun y hy => ?_
  rw [if_pos (List.mem_range.1 hy)]
theorem kyp_get (ns us : List Nat) (f : Fm) (i x : Nat) (h : x < (kyp ns us f i x).length) : (kyp ns us f i x)[x] = ks (fun j => tb ns us f j x) i := by
  simp [kyp]
theorem kyp_set (ns us : List Nat) (f : Fm) (i x : Nat) (h : x < ns.length) : (kyp ns us f i x).set x (ks (fun j => tb ns us f j x) i ++ dg (tb ns us f i x)) = kyp ns us f i (x + 1) := by
  apply List.ext_getElem (by simp [kyp])
  intro y h1 h2
  rw [List.getElem_set]
  by_cases hy : x = y
  · subst hy
    simp [kyp, ks]
  · rw [if_neg hy]
    simp only [kyp, List.getElem_map, List.getElem_range]
    by_cases h3 : y < x
    · rw [if_pos h3, if_pos (by omega)]
    · rw [if_neg h3, if_neg (by omega)]
theorem kyl_kb (ns us : List Nat) (f : Fm) (N : Nat) : kyl ns us f N = (((List.range ns.length).map (ky ns us f N)).map fun a => kb a N) := by
  unfold kyl
  rw [List.map_map]
  refine List.map_congr_left fun x _ => ?_
  exact (kb_ky ns us f N x).symm
theorem kyl_dvd (ns us : List Nat) (f : Fm) (N : Nat) : dvd (fun y => ((List.range ns.length).map (ky ns us f N)).getD y 0) ns.length = dvd (ky ns us f N) ns.length :=
  dvd_congr _ fun y hy => by simp [hy]
theorem ky_lt (ns us : List Nat) (f : Fm) (k w : Nat) : ky ns us f k w < 2 ^ k := msk_lt _ _
theorem kyl_lt (ns us : List Nat) (f : Fm) (N : Nat) (i : Nat) : ((List.range ns.length).map (ky ns us f N)).getD i 0 < 2 ^ N := by
  rw [List.getD_eq_getElem?_getD]
  rcases Nat.lt_or_ge i ns.length with hi | hi
  · simp [hi]; exact ky_lt _ _ _ _ _
  · simp [hi]; exact Nat.pow_pos (by decide)
theorem dc_ok (f : Fm) (h : f.ok = true) (j : Nat) : ∀ g ∈ dc f j, g.ok = true := by
  induction j with
  | zero => intro g hg; simp [dc] at hg; rw [hg]; exact h
  | succ j ih =>
    intro g hg
    rw [dc] at hg
    cases hd : dc f j with
    | nil => rw [hd] at hg; simp [stepD] at hg
    | cons a rest =>
      rw [hd, stepD, List.mem_append] at hg
      rw [hd] at ih
      rcases hg with hg | hg
      · have ha := ih a List.mem_cons_self
        cases a with
        | var s => simp [kids] at hg
        | fls => simp [kids] at hg
        | bin k x y =>
          simp only [Fm.ok, Bool.and_eq_true] at ha
          simp only [kids, List.mem_cons, List.not_mem_nil, or_false] at hg
          rcases hg with rfl | rfl
          · exact ha.1
          · exact ha.2
        | un k x =>
          simp only [Fm.ok] at ha
          simp only [kids, List.mem_cons, List.not_mem_nil, or_false] at hg
          rw [hg]; exact ha
      · exact ih g (List.mem_cons_of_mem _ hg)
theorem pt_ok (f : Fm) (h : f.ok = true) (i : Nat) (hi : i < (enc f).length) : (pt f i).ok = true := by
  obtain ⟨rest, h1, -⟩ := pt_at f i hi
  exact dc_ok f h i _ (by rw [h1]; exact List.mem_cons_self)
/-- the node of a formula -/
def hnd : Fm → Int
  | .var _ => 0
  | .fls => 1
  | .bin k _ _ => k.i
  | .un k _ => k.i
theorem pt_node (f : Fm) (i : Nat) (hi : i < (enc f).length) : (enc f)[i].1 = hnd (pt f i) := by
  obtain ⟨g, rest, h1, h2, h3⟩ := dc_at f i hi
  have e : pt f i = g := by unfold pt; rw [h1]; rfl
  rw [e]
  cases g <;> simp only at h3 <;> rw [h3] <;> rfl
theorem ty_strs : Ty Tryz.prog 38 9 (.string ⟨#[]⟩) 1 16 := Ty.mk' Tryz.underlying38 (by kernel_rfl) rfl (by decide)
theorem ty_prs : Ty Tryz.prog 54 90 (.agg #[.int .i64 0, .int .i64 0]) 2 16 := Ty.mk' Tryz.underlying54 (by kernel_rfl) rfl (by decide)
/-- what newFilter's loop keeps: W its first world, F the filter's block, G the keys' block -/
structure NF (W wr : World) (F G : Nat) (n a0 a1 sf : Value) (l : Nat) (keys : List ByteArray) (xs ys : List (Int × Int)) (bx dm : Value) : Prop where
  sz : G + 1 ≤ wr.heap.size
  be : Below F W wr
  lt : F < G
  ky : Ow cS 9 G wr (.slice (some ⟨G, 0, none⟩) l l) keys
  bl : Blk wr F 56 #[n, a0, a1, sf, .slice none 0 0, bx, dm]
  ob : Ow cN 90 (G + 1) wr bx xs
  od : Ow cN 90 (G + 1) wr dm ys
  ne : ∀ g, bx.ownBlock = some g → ¬ dm.ownBlock = some g
section
variable {W wr w' : World} {F G : Nat} {n a0 a1 sf : Value} {l : Nat} {keys : List ByteArray} {xs ys : List (Int × Int)} {bx dm : Value}
theorem NF.below (h : NF W wr F G n a0 a1 sf l keys xs ys bx dm) (hb : Below wr.heap.size wr w') : NF W w' F G n a0 a1 sf l keys xs ys bx dm :=
  ⟨Nat.le_trans h.sz hb.size, h.be.trans (hb.mono (by have := h.sz; have := h.lt; omega)), h.lt, h.ky.below hb, h.bl.below hb h.bl.lt, h.ob.below hb, h.od.below hb, h.ne⟩
theorem NF.setKey (h : NF W wr F G n a0 a1 sf l keys xs ys bx dm) {x : Nat} (hx : x < keys.length) (s : ByteArray) : NF W (wr.setCell ⟨G, x, none⟩ (.string s)) F G n a0 a1 sf l (keys.set x s) xs ys bx dm :=
  ⟨by simp only [World.setCell, Array.size_modify]; exact h.sz, h.be.setCell (p := ⟨G, x, none⟩) (Nat.le_of_lt h.lt) _, h.lt, h.ky.set1 rfl rfl hx, h.bl.far (by have := h.lt; show F ≠ G; omega) _,
    h.ob.far (fun e => by have := (h.ob.block G e).1; omega) _, h.od.far (fun e => by have := (h.od.block G e).1; omega) _, h.ne⟩
/-- one pair more of a box -/
theorem NF.box {w3 w5 : World} {v1 : Value} {zs : List (Int × Int)} {cs : Array Value} (h : NF W w3 F G n a0 a1 sf l keys xs ys bx dm) (ho : Ow cN 90 (G + 1) w5 v1 zs) (hg : (w3.alloc (.cells cs 90)).grownBy w5 bx.ownBlock) (hb : Below (G + 1) w3 w5) (hat : v1.ownBlock = bx.ownBlock ∨ v1.ownBlock = some (w3.heap.size + 1)) :
    NF W (w5.setCell ⟨F, 5, none⟩ v1) F G n a0 a1 sf l keys zs ys v1 dm := by
  have hlt := h.lt
  refine ⟨by simp only [World.setCell, Array.size_modify]; exact Nat.le_trans h.sz hb.size, (h.be.trans (hb.mono (by omega))).setCell (p := ⟨F, 5, none⟩) (Nat.le_refl _) _, h.lt, ?_, ?_, ?_, ?_, fun g hg2 hd => ?_⟩
  · exact ((h.ky.alloc _).kept hg (.inr fun e => by have := (h.ob.block G e.symm).1; omega)).setBelow (p := ⟨F, 5, none⟩) hlt _
  · exact ((h.bl.alloc _).grown hg (fun e => by have := (h.ob.block F e.symm).1; omega)).set_ 5 v1
  · exact ho.setBelow (p := ⟨F, 5, none⟩) (by show F < G + 1; omega) _
  · refine ((h.od.alloc _).kept hg ?_).setBelow (p := ⟨F, 5, none⟩) (by show F < G + 1; omega) _
    cases hd : dm.ownBlock with
    | none => exact .inl rfl
    | some k => exact .inr fun e => h.ne k e.symm hd
  · rcases hat with e | e
    · exact h.ne g (by rw [← e]; exact hg2) hd
    · rw [hg2] at e
      have := (h.od.block g hd).2
      injection e with e
      omega
theorem NF.dia {w3 w5 : World} {v1 : Value} {zs : List (Int × Int)} {cs : Array Value} (h : NF W w3 F G n a0 a1 sf l keys xs ys bx dm) (ho : Ow cN 90 (G + 1) w5 v1 zs) (hg : (w3.alloc (.cells cs 90)).grownBy w5 dm.ownBlock) (hb : Below (G + 1) w3 w5) (hat : v1.ownBlock = dm.ownBlock ∨ v1.ownBlock = some (w3.heap.size + 1)) :
    NF W (w5.setCell ⟨F, 6, none⟩ v1) F G n a0 a1 sf l keys xs zs bx v1 := by
  have hlt := h.lt
  refine ⟨by simp only [World.setCell, Array.size_modify]; exact Nat.le_trans h.sz hb.size, (h.be.trans (hb.mono (by omega))).setCell (p := ⟨F, 6, none⟩) (Nat.le_refl _) _, h.lt, ?_, ?_, ?_, ?_, fun g hg2 hd => ?_⟩
  · exact ((h.ky.alloc _).kept hg (.inr fun e => by have := (h.od.block G e.symm).1; omega)).setBelow (p := ⟨F, 6, none⟩) hlt _
  · exact ((h.bl.alloc _).grown hg (fun e => by have := (h.od.block F e.symm).1; omega)).set_ 6 v1
  · refine ((h.ob.alloc _).kept hg ?_).setBelow (p := ⟨F, 6, none⟩) (by show F < G + 1; omega) _
    cases hd : bx.ownBlock with
    | none => exact .inl rfl
    | some k => exact .inr fun e => h.ne k hd e.symm
  · exact ho.setBelow (p := ⟨F, 6, none⟩) (by show F < G + 1; omega) _
  · rcases hat with e | e
    · exact h.ne g hg2 (by rw [← e]; exact hd)
    · rw [hd] at e
      have := (h.ob.block g hg2).2
      injection e with e
      omega
end
set_option maxHeartbeats 2000000 in
set_option maxRecDepth 100000 in
theorem impl_newFilter (ns us : List Nat) (f : Fm) (A0 A1 : Option Addr) (c0 c1 : Nat) (v : Value) (w : World) (hm : Mdl w (.slice A0 ns.length c0) (.slice A1 6 c1) ns us) (h1 : MdN ns us) (h : Sl cN w v (enc f)) (hok : f.ok = true) (hl : (enc f).length ≤ 40) :
    Calls Tryz.prog 22 #[.agg #[.int .i64 ns.length, .slice A0 ns.length c0, .slice A1 6 c1], v] w
      fun e w' => ∃ F A cc bx dm, e = .returned (.pointer (some ⟨F, 0, none⟩)) ∧ w.heap.size ≤ F ∧ Blk w' F 56 #[.int .i64 ns.length, .slice A0 ns.length c0, .slice A1 6 c1, v, .slice A ns.length cc, bx, dm] ∧
        Ow cI 2 w.heap.size w' (.slice A ns.length cc) (li (acl ns us f)) ∧ Sl cN w' bx (lp (ofk true (mds ns us f (enc f).length))) ∧ Sl cN w' dm (lp (ofk false (mds ns us f (enc f).length))) ∧ Below w.heap.size w w' := by
  obtain ⟨Af, cf, rfl⟩ := h.opn
  have h8 := h1.r.1
  have hb0 := below_alloc' w (.cells #[.int .i64 ns.length, .slice A0 ns.length c0, .slice A1 6 c1] 28)
  have hk0 := Blk.new w 28 #[.int .i64 ns.length, .slice A0 ns.length c0, .slice A1 6 c1]
  have HB := Lib.hid hb0
  have HK0 := Lib.hid hk0
  have HM := Lib.hid hm
  have HF := Lib.hid h
  have H1 := Lib.hid h1
  clear hb0 hk0 hm h
  go_enter Tryz.func22, Tryz.ntmps22
  go_upto_region 1 with fail
  generalize World.alloc w _ = W at *
  have k0 := HK0.out.cell
  have l0 := HK0.out.lt
  go_wp2_with (at_make; refine stopHere ?_)
  refine goHere ?_
  have HV : Hid (Below W.heap.size W (W.alloc (.cells #[.int .i64 ns.length, .slice A0 ns.length c0, .slice A1 6 c1, .slice Af (enc f).length cf, .slice none 0 0, .slice none 0 0, .slice none 0 0] 56))) := Lib.hid (below_alloc' _ _)
  have HFb : Hid (Blk (W.alloc (.cells #[.int .i64 ns.length, .slice A0 ns.length c0, .slice A1 6 c1, .slice Af (enc f).length cf, .slice none 0 0, .slice none 0 0, .slice none 0 0] 56)) W.heap.size 56 #[.int .i64 ns.length, .slice A0 ns.length c0, .slice A1 6 c1, .slice Af (enc f).length cf, .slice none 0 0, .slice none 0 0, .slice none 0 0]) := Lib.hid (Blk.new _ _ _)
  have HMW := Lib.hid (HM.out.below HB.out)
  have HFW := Lib.hid (HF.out.below HB.out)
  generalize World.alloc W _ = V at *
  refine mk_full (K := cS) V ty_strs rfl _ _ rfl V.heap.size ns.length ⟨#[]⟩ rfl rfl rfl (by omega) (Nat.le_refl _) ?_
  intro w1 ho hg hb hz
  rw [← kyl_zero ns us f] at ho
  have HNF : Hid (NF W w1 W.heap.size V.heap.size (.int .i64 ns.length) (.slice A0 ns.length c0) (.slice A1 6 c1) (.slice Af (enc f).length cf) ns.length (kyl ns us f 0) (lp (ofk true (mds ns us f 0))) (lp (ofk false (mds ns us f 0))) (.slice none 0 0) (.slice none 0 0)) :=
    Lib.hid ⟨hz, HV.out.trans (hb.mono HV.out.size), HFb.out.lt, ho, HFb.out.below hb HFb.out.lt, Ow.nil _ _, Ow.nil _ _, fun g hg => by cases hg⟩
  have hFG := HFb.out.lt
  clear ho hg hb hz k0 HV HFb HM HF
  have HX : Hid (∀ wr, Below W.heap.size W wr → Blk wr w.heap.size 28 #[.int .i64 ns.length, .slice A0 ns.length c0, .slice A1 6 c1] ∧ Mdl wr (.slice A0 ns.length c0) (.slice A1 6 c1) ns us ∧ Sl cN wr (.slice Af (enc f).length cf) (enc f)) := Lib.hid (fun wr hb => ⟨HK0.out.below hb l0, HMW.out.below hb, HFW.out.below hb⟩)
  generalize V.heap.size = G at *
  clear HK0 HMW HFW
  go_wp2
  go_loopw [22] (fun i wr => ∃ j : Nat, j ≤ (enc f).length ∧ i = .int .i64 j ∧ ∃ bx dm, NF W wr W.heap.size G (.int .i64 ns.length) (.slice A0 ns.length c0) (.slice A1 6 c1) (.slice Af (enc f).length cf) ns.length (kyl ns us f j) (lp (ofk true (mds ns us f j))) (lp (ofk false (mds ns us f j))) bx dm) (fun i _ => (enc f).length - (intOf i).toNat)
  case atStart => exact ⟨0, Nat.zero_le _, rfl, _, _, HNF.out⟩
  case round =>
    obtain ⟨i, hi, rfl, bx, dm, hn⟩ := hrel
    clear HNF
    by_cases hlt : i < (enc f).length
    · obtain ⟨hx, hmd, hfs⟩ := HX.out _ hn.be
      obtain ⟨b, o, rfl, hbl, hc0, hc1⟩ := hfs.atN hlt
      have HFS := Lib.hid hfs
      have HNi := Lib.hid hn
      have HPA := Lib.hid (fun W' (hW : Sl cN W' (.slice (some ⟨b, o, none⟩) (enc f).length cf) (enc f)) => impl_part_at _ f i W' hW (by omega) hlt)
      have HTR := Lib.hid (fun u W' (hm : Mdl W' (.slice A0 ns.length c0) (.slice A1 6 c1) ns us) (hu : Sl cN W' u (enc (pt f i))) => impl_truthIn ns us (pt f i) A0 A1 c0 c1 u W' hm H1.out hu (pt_ok f hok i hlt) (by obtain ⟨r, hr⟩ := pt_drop f i hlt; have := congrArg List.length hr; rw [List.length_drop, List.length_append] at this; omega))
      have HKD := Lib.hid (pt_node f i hlt)
      have HNd : Hid (Blk (wr.alloc (.cells #[.int .i64 (enc f)[i].1, .int .i64 (enc f)[i].2] 85)) wr.heap.size 85 #[.int .i64 (enc f)[i].1, .int .i64 (enc f)[i].2]) := Lib.hid (Blk.new _ _ _)
      have HN1 := Lib.hid (hn.below (below_alloc' wr (.cells #[.int .i64 (enc f)[i].1, .int .i64 (enc f)[i].2] 85)))
      have hGr : G < wr.heap.size := hn.sz
      have HS1 := Lib.hid (hfs.alloc (.cells #[.int .i64 (enc f)[i].1, .int .i64 (enc f)[i].2] 85))
      clear hx hmd hfs hn HNi HFS
      generalize (enc f)[i].1 = kd at *
      generalize (enc f)[i].2 = sd at *
      go_wp2_with fail
      refine (HPA.out _ HS1.out).mono ?_
      rintro e w2 ⟨ub, rfl, hug, rfl⟩
      have hu := hug _ HS1.out
      obtain ⟨Au, cu, rfl⟩ := hu.opn
      have HU := Lib.hid hu
      have HUG : Hid (∀ wr, Below W.heap.size W wr → Sl cN wr (.slice Au (enc (pt f i)).length cu) (enc (pt f i))) := Lib.hid (fun wr hb => hug wr (HX.out wr hb).2.2)
      obtain ⟨hx, hmd, -⟩ := HX.out _ HN1.out.be
      have HMD := Lib.hid hmd
      have k0 := hx.cell
      have l1 := hx.lt
      clear hu hug hx hmd hc0 hc1 HS1
      generalize World.alloc wr _ = w2 at *
      go_wp2_with fail
      refine (HTR.out _ _ HMD.out HU.out).mono ?_
      rintro e w3 ⟨rfl, hb⟩
      have HN3 := Lib.hid (HN1.out.below hb)
      have HNd3 := Lib.hid (HNd.out.below hb HNd.out.lt)
      have hm256 : tv ns us (pt f i) < 256 := Nat.lt_of_lt_of_le (tv_lt ns us h1.b _) (two_pow_256 h8)
      obtain ⟨m, hmm⟩ : ∃ m, tv ns us (pt f i) = m := ⟨_, rfl⟩
      have HTB : Hid (∀ x, tb ns us f i x = m.testBit x) := Lib.hid (fun x => by unfold tb; rw [hmm])
      have HMM := Lib.hid hmm
      rw [hmm] at hm256
      rw [hmm]
      clear hb k0 l1 HN1 HNd HU hmm HMD
      generalize wr.heap.size = Ni at *
      rw [← kyp_zero] at HN3
      go_wp2
      go_loopw [35] (fun x wq => ∃ y : Nat, y ≤ ns.length ∧ x = .int .i64 y ∧ NF W wq W.heap.size G (.int .i64 ns.length) (.slice A0 ns.length c0) (.slice A1 6 c1) (.slice (some ⟨b, o, none⟩) (enc f).length cf) ns.length (kyp ns us f i y) (lp (ofk true (mds ns us f i))) (lp (ofk false (mds ns us f i))) bx dm ∧ Blk wq Ni 85 #[.int .i64 kd, .int .i64 sd]) (fun x _ => ns.length - (intOf x).toNat)
      case atStart => exact ⟨0, Nat.zero_le _, rfl, HN3.out, HNd3.out⟩
      case round =>
        obtain ⟨x, hx, rfl, hn, hnd⟩ := hrel
        clear HN3 HNd3
        have HN := Lib.hid hn
        have HND := Lib.hid hnd
        clear hn hnd
        by_cases hxn : x < ns.length
        · have hxk : x < (kyp ns us f i x).length := by rw [kyp_length]; exact hxn
          have hset := Lib.hid ((HN.out.below (Below.refl _ _).drew).setKey hxk (ks (fun j => tb ns us f j x) i ++ dg (m.testBit x)))
          have hE := kyp_set ns us f i x hxn
          rw [HTB.out] at hE
          rw [hE] at hset
          have hnd2 := Lib.hid ((HND.out.drewN 1).far (p := ⟨G, x, none⟩) (show Ni ≠ G by omega) (.string (ks (fun j => tb ns us f j x) i ++ dg (m.testBit x))))
          have hod := (HN.out.below (Below.refl _ _).drew).ky
          obtain ⟨k1, -, -, -⟩ := HN.out.ky.at1 rfl (j := x) hxk rfl
          obtain ⟨k4, f4, -, l4⟩ := hod.at1 rfl (j := x) hxk rfl
          rw [kyp_get] at k1 k4
          have i1 : (x : Int) < (ns.length : Int) := by omega
          have hsz : ¬ 9223372036854775807 < (ks (fun j => tb ns us f j x) i).size + (dg (m.testBit x)).size := by rw [ks_size]; have : (dg (m.testBit x)).size = 1 := rfl; omega
          clear hE hxk hod
          generalize ks (fun j => tb ns us f j x) i = s at *
          go_wp2
          go_still_tail 11, (by kernel_rfl)
          still_call ((impl_has m x _ (by omega) (by omega)).mono fun e w' ⟨h1, h2⟩ => ⟨h1, h2.symm⟩)
          repeat still_step
          still_call ((impl_one (m.testBit x) _).mono fun e w' ⟨h1, h2⟩ => ⟨h1, h2.symm⟩)
          repeat still_step
          still_call ((impl_decimal (m.testBit x) _).mono fun e w' ⟨h1, h2⟩ => ⟨h1, h2.symm⟩)
          repeat still_step
          refine wpStill_nil ?_
          change wpList _ _ _ _ _ (World.drew _)
          clear k1
          change Hid (NF W ((World.drew wr).setCell _ _) _ _ _ _ _ _ _ _ _ _ _ _) at hset
          change Hid (Blk ((World.drew wr).setCell _ _) _ _ _) at hnd2
          generalize World.drew wr = w4 at *
          go_wp2
          go_roundw
          case rel => exact ⟨x + 1, by omega, by go_num, hset.out, hnd2.out⟩
          case measure => simp [intOf]; omega
        · obtain rfl : x = ns.length := by omega
          rw [kyp_end] at HN
          have k5 := HND.out.cell
          have l5 := HND.out.lt
          have HMS : Hid (mds ns us f (i + 1) = mds ns us f i ++ match pt f i with
            | .un .box a => [(true, tv ns us (pt f i), tv ns us a)]
            | .un .dia a => [(false, tv ns us (pt f i), tv ns us a)]
            | _ => []) := Lib.hid rfl
          cases hp : pt f i with
          | var t =>
            rw [hp] at HKD HMS
            have HM2 : Hid (mds ns us f (i + 1) = mds ns us f i) := Lib.hid (by rw [HMS.out]; simp)
            clear HMS
            obtain rfl : kd = 0 := HKD.out
            go_wp2
            go_roundw
            case rel => exact ⟨i + 1, by omega, by go_num, _, _, by rw [HM2.out]; exact HN.out⟩
            case measure => simp [intOf]; omega
          | fls =>
            rw [hp] at HKD HMS
            have HM2 : Hid (mds ns us f (i + 1) = mds ns us f i) := Lib.hid (by rw [HMS.out]; simp)
            clear HMS
            obtain rfl : kd = 1 := HKD.out
            go_wp2
            go_roundw
            case rel => exact ⟨i + 1, by omega, by go_num, _, _, by rw [HM2.out]; exact HN.out⟩
            case measure => simp [intOf]; omega
          | bin k a c =>
            cases k
            all_goals
              rw [hp] at HKD HMS
              have HM2 : Hid (mds ns us f (i + 1) = mds ns us f i) := Lib.hid (by rw [HMS.out]; simp)
              clear HMS
              have e : kd = _ := HKD.out; simp only [hnd, BK.i] at e; subst e
              go_wp2
              go_roundw
              case rel => exact ⟨i + 1, by omega, by go_num, _, _, by rw [HM2.out]; exact HN.out⟩
              case measure => simp [intOf]; omega
          | un k a =>
            have HFI : Hid (∀ W0, Sl cN W0 (.slice Au (enc (pt f i)).length cu) (enc (pt f i)) → Calls Tryz.prog 59 #[.slice Au (enc (pt f i)).length cu] W0 fun e w' => ∃ u, e = .returned u ∧ Sl cN W0 u (enc a) ∧ W0 = w') := Lib.hid (fun W0 h0 => by
              have e0 : enc (pt f i) = (k.i, 0) :: (enc a ++ []) := by rw [hp, enc, List.append_nil]
              have hle : (enc (pt f i)).length ≤ 40 := by obtain ⟨r, hr⟩ := pt_drop f i hlt; have := congrArg List.length hr; rw [List.length_drop, List.length_append] at this; omega
              rw [e0] at h0 hle ⊢
              exact impl_first _ _ a [] W0 h0 (by omega))
            obtain ⟨m2, hmm2⟩ : ∃ m2, tv ns us a = m2 := ⟨_, rfl⟩
            have HT2 : Hid (∀ W0, Below W.heap.size W W0 → ∀ u, Sl cN W0 u (enc a) → Calls Tryz.prog 41 #[.agg #[.int .i64 ns.length, .slice A0 ns.length c0, .slice A1 6 c1], u] W0 fun e w' => e = .returned (.int .i64 (m2 : Nat)) ∧ Below W0.heap.size W0 w') := Lib.hid (fun W0 hb u hu => by
              have hok2 := pt_ok f hok i hlt
              have hle : (enc (pt f i)).length ≤ 40 := by obtain ⟨r, hr⟩ := pt_drop f i hlt; have := congrArg List.length hr; rw [List.length_drop, List.length_append] at this; omega
              rw [hp] at hok2 hle
              rw [enc, List.length_cons] at hle
              rw [← hmm2]
              exact impl_truthIn ns us a A0 A1 c0 c1 u W0 (HX.out _ hb).2.1 H1.out hu hok2 (by omega))
            rw [hp] at HKD HMS HFI HUG
            cases k
            ·
              obtain rfl : kd = 5 := HKD.out
              have HM2 : Hid (lp (ofk true (mds ns us f (i + 1))) = lp (ofk true (mds ns us f i)) ++ [((m : Int), (m2 : Int))] ∧ lp (ofk false (mds ns us f (i + 1))) = lp (ofk false (mds ns us f i))) := Lib.hid (by
                rw [HMS.out]
                have e0 := HMM.out
                rw [hp] at e0
                simp only [ofk_append, lp_append, ofk, e0, hmm2]
                simp [lp])
              have hxl : (lp (ofk true (mds ns us f i))).length ≤ 100 := by rw [lp_length]; have := ofk_length true (mds ns us f i); have := mds_length ns us f i; omega
              clear HMS HMM hmm2
              obtain ⟨xs, hxs⟩ : ∃ xs, lp (ofk true (mds ns us f i)) = xs := ⟨_, rfl⟩
              rw [hxs] at HN HM2 hxl
              clear hxs
              obtain ⟨L, hLL⟩ : ∃ L, xs.length = L := ⟨_, rfl⟩
              have HLL := Lib.hid hLL
              rw [hLL] at hxl
              have hl9 : (xs ++ [((m : Int), (m2 : Int))]).length = L + 1 := by simp [hLL]
              clear hLL
              obtain ⟨Ax, cx, rfl⟩ := HN.out.ob.opn
              rw [HLL.out] at HN
              have kF := HN.out.bl.cell
              have lF := HN.out.bl.lt
              have kX := (HX.out _ HN.out.be).1.cell
              have lX := (HX.out _ HN.out.be).1.lt
              have hz0 := HN.out.sz
              rw [HLL.out]
              go_wp2
              go_region_law (first | (refine step_one (K := cN) _ ty_prs rfl _ _ rfl (B := G + 1) (xs := xs) (by simp [Act.eval, Act.put]; done) hn6.ob ((m : Int), (m2 : Int)) rfl (by simp [Act.eval, Act.put]; done) (by rw [HLL.out]; omega) hn6.sz ?_; intro v1 w7 ho1 hg1 hb1 hat1; obtain ⟨g9, c9, hv9, hB9, -⟩ := ho1.form (by simp); rw [hl9] at hv9; subst hv9; have hk9 := (hn6.bl.alloc _).grown hg1 (fun e => by have := (hn6.ob.block _ e.symm).1; have := hn6.lt; omega); have kc9 := hk9.cell; have kf9 := hk9.frozen; have kl9 := hk9.lt) | (go_simp; go_at_call 59; refine (HFI.out _ (HUG.out _ (below_drewN HN.out.be 1))).mono ?_; rintro e w5 ⟨uf, rfl, huf, rfl⟩) | (go_simp; go_at_call 41; refine (HT2.out _ (below_drewN HN.out.be 1) _ huf).mono ?_; rintro e w6 ⟨rfl, hb⟩; have hn6 := (HN.out.below (below_drewN (Below.refl _ _) 1)).below hb; have k6 := hn6.bl.cell; have l6 := hn6.bl.lt))
              all_goals
                have Z := Lib.hid (hn6.box ho1 hg1 hb1 hat1)
                clear ho1 hg1 hb1 hat1 hk9 kc9 kf9 hn6 k6 kF kX huf hb
                go_wp2
                go_roundw
                case rel => exact ⟨i + 1, by omega, by go_num, _, _, by rw [HM2.out.1, HM2.out.2]; exact Z.out⟩
                case measure => simp [intOf]; omega
            ·
              obtain rfl : kd = 6 := HKD.out
              have HM2 : Hid (lp (ofk false (mds ns us f (i + 1))) = lp (ofk false (mds ns us f i)) ++ [((m : Int), (m2 : Int))] ∧ lp (ofk true (mds ns us f (i + 1))) = lp (ofk true (mds ns us f i))) := Lib.hid (by
                rw [HMS.out]
                have e0 := HMM.out
                rw [hp] at e0
                simp only [ofk_append, lp_append, ofk, e0, hmm2]
                simp [lp])
              have hxl : (lp (ofk false (mds ns us f i))).length ≤ 100 := by rw [lp_length]; have := ofk_length false (mds ns us f i); have := mds_length ns us f i; omega
              clear HMS HMM hmm2
              obtain ⟨xs, hxs⟩ : ∃ xs, lp (ofk false (mds ns us f i)) = xs := ⟨_, rfl⟩
              rw [hxs] at HN HM2 hxl
              clear hxs
              obtain ⟨L, hLL⟩ : ∃ L, xs.length = L := ⟨_, rfl⟩
              have HLL := Lib.hid hLL
              rw [hLL] at hxl
              have hl9 : (xs ++ [((m : Int), (m2 : Int))]).length = L + 1 := by simp [hLL]
              clear hLL
              obtain ⟨Ax, cx, rfl⟩ := HN.out.od.opn
              rw [HLL.out] at HN
              have kF := HN.out.bl.cell
              have lF := HN.out.bl.lt
              have kX := (HX.out _ HN.out.be).1.cell
              have lX := (HX.out _ HN.out.be).1.lt
              have hz0 := HN.out.sz
              rw [HLL.out]
              go_wp2
              go_region_law (first | (refine step_one (K := cN) _ ty_prs rfl _ _ rfl (B := G + 1) (xs := xs) (by simp [Act.eval, Act.put]; done) hn6.od ((m : Int), (m2 : Int)) rfl (by simp [Act.eval, Act.put]; done) (by rw [HLL.out]; omega) hn6.sz ?_; intro v1 w7 ho1 hg1 hb1 hat1; obtain ⟨g9, c9, hv9, hB9, -⟩ := ho1.form (by simp); rw [hl9] at hv9; subst hv9; have hk9 := (hn6.bl.alloc _).grown hg1 (fun e => by have := (hn6.od.block _ e.symm).1; have := hn6.lt; omega); have kc9 := hk9.cell; have kf9 := hk9.frozen; have kl9 := hk9.lt) | (go_simp; go_at_call 59; refine (HFI.out _ (HUG.out _ (below_drewN HN.out.be 1))).mono ?_; rintro e w5 ⟨uf, rfl, huf, rfl⟩) | (go_simp; go_at_call 41; refine (HT2.out _ (below_drewN HN.out.be 1) _ huf).mono ?_; rintro e w6 ⟨rfl, hb⟩; have hn6 := (HN.out.below (below_drewN (Below.refl _ _) 1)).below hb; have k6 := hn6.bl.cell; have l6 := hn6.bl.lt))
              all_goals
                have Z := Lib.hid (hn6.dia ho1 hg1 hb1 hat1)
                clear ho1 hg1 hb1 hat1 hk9 kc9 kf9 hn6 k6 kF kX huf hb
                go_wp2
                go_roundw
                case rel => exact ⟨i + 1, by omega, by go_num, _, _, by rw [HM2.out.1, HM2.out.2]; exact Z.out⟩
                case measure => simp [intOf]; omega
    · obtain rfl : i = (enc f).length := by omega
      have hsz := hn.sz
      have HN := Lib.hid hn
      have HDV := Lib.hid (impl_divideds (.slice (some ⟨G, 0, none⟩) ns.length ns.length) ((List.range ns.length).map (ky ns us f (enc f).length)) (enc f).length (by omega) wr (by rw [← kyl_kb]; exact hn.ky.sl) (kyl_lt ns us f _) (by simp; omega))
      have HE : Hid (li (dvd (fun y => ((List.range ns.length).map (ky ns us f (enc f).length)).getD y 0) ((List.range ns.length).map (ky ns us f (enc f).length)).length).1 = li (acl ns us f)) := Lib.hid (by rw [List.length_map, List.length_range, kyl_dvd]; rfl)
      have HLA := Lib.hid (show (li (acl ns us f)).length = ns.length by rw [li_length, acl_length])
      clear hn
      go_wp2_with fail
      refine HDV.out.mono ?_
      rintro e w2 ⟨u, rfl, ho, hb⟩
      rw [HE.out] at ho
      obtain ⟨Au, cu, rfl⟩ := ho.opn
      rw [HLA.out] at ho ⊢
      have hn2 := HN.out.below hb
      have kF := hn2.bl.cell
      have fF := hn2.bl.frozen
      have lF := hn2.bl.lt
      have Z1 := Lib.hid (hn2.bl.set_ 4 (.slice Au ns.length cu))
      have hFr : W.heap.size < wr.heap.size := by omega
      have Z2 := Lib.hid ((ho.setBelow (p := ⟨W.heap.size, 4, none⟩) hFr (.slice Au ns.length cu)).mono (Nat.le_trans (Nat.le_of_lt l0) (Nat.le_of_lt hFr)))
      have Z3 := Lib.hid ((hn2.ob.setBelow (p := ⟨W.heap.size, 4, none⟩) (by show W.heap.size < G + 1; omega) (.slice Au ns.length cu)).sl)
      have Z4 := Lib.hid ((hn2.od.setBelow (p := ⟨W.heap.size, 4, none⟩) (by show W.heap.size < G + 1; omega) (.slice Au ns.length cu)).sl)
      have Z5 := Lib.hid ((bthen HB.out (hn2.be)).setCell (p := ⟨W.heap.size, 4, none⟩) (Nat.le_of_lt l0) (.slice Au ns.length cu))
      have Z6 := Lib.hid l0
      clear ho hb hn2
      go_wp2
      go_ret
      exact ⟨_, _, _, _, _, rfl, Nat.le_of_lt Z6.out, Z1.out, Z2.out, Z3.out, Z4.out, Z5.out⟩
end Go.Proofs.YtboldkahppdmbaaGreatDoor
