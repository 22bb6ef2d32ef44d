/- Contracts of the program: goals. -/
import Derived.Test.YtaigiopoogbbbaaGreatY21
import Derived.Test.YtaigiopoogbbbaaGreatY24
import Derived.Test.YtaigiopoogbbbaaGreatY25
namespace Go.Proofs.YtaigiopoogbbbaaGreat
open Go.RowKit
set_option linter.unusedVariables false
set_option linter.unusedSimpArgs false
theorem impl_proving (A : Option Addr) (n c : Nat) (s t : ByteArray) (w : World) :
    Calls Tryz.prog 81 #[.agg #[.slice A n c, .string s], .string t] w fun e w' => e = .returned (.agg #[.slice A n c, .string t]) ∧ Below w.heap.size w w' := by
  have hb0 := below_alloc' w (.cells #[.slice A n c, .string s] 80)
  have hk0 := Blk.new w 80 #[.slice A n c, .string s]
  have HB := Lib.hid hb0
  have HK := Lib.hid hk0
  clear hb0 hk0
  go_enter Tryz.func81, Tryz.ntmps81
  have HK2 := Lib.hid (Blk.new' (w.alloc (.cells #[.slice A n c, .string s] 80)) 80 #[.slice A n c, .string t] (g := w.heap.size + 1) (by simp))
  have hb2 := bthen HB.out (below_alloc' (w.alloc (.cells #[.slice A n c, .string s] 80)) (.cells #[.slice A n c, .string t] 80))
  have HB2 := Lib.hid hb2
  clear hb2
  go_wp2
  generalize World.alloc (World.alloc w _) _ = w2 at *
  have rc := HK2.out.cell
  have rf := HK2.out.frozen
  have rl := HK2.out.lt
  exact bodyPost_ret (v := .agg #[.slice A n c, .string t]) (by simp [results, Tryz.results81, go_sem, rc, rf, rl]) rfl ⟨rfl, HB2.out⟩
set_option maxRecDepth 100000 in
theorem impl_with (A B : Option Addr) (n c m d : Nat) (s : ByteArray) (L M : List T8) (w : World) (h : Sl cS w (.slice A n c) (bs L)) (h' : Sl cS w (.slice B m d) (bs M)) (hl : L.length + M.length ≤ 1048576) :
    Calls Tryz.prog 82 #[.agg #[.slice A n c, .string s], .slice B m d] w fun e w' => ∃ r, e = .returned (.agg #[r, .string s]) ∧ Ow cS 9 w.heap.size w' r (bs (sbI8 (L ++ M))) ∧ Below w.heap.size w w' := by
  have hb0 := below_alloc' w (.cells #[.slice A n c, .string s] 80)
  have HK1 := Lib.hid ((Blk.new w 80 #[.slice A n c, .string s]).below (below_alloc' (w.alloc (.cells #[.slice A n c, .string s] 80)) (.cells #[.slice none 0 0, .string ⟨#[]⟩] 80)) (Blk.new w 80 #[.slice A n c, .string s]).lt)
  have HK2 := Lib.hid (Blk.new' (w.alloc (.cells #[.slice A n c, .string s] 80)) 80 #[.slice none 0 0, .string ⟨#[]⟩] (g := w.heap.size + 1) (by simp))
  have hb2 := bthen hb0 (below_alloc' (w.alloc (.cells #[.slice A n c, .string s] 80)) (.cells #[.slice none 0 0, .string ⟨#[]⟩] 80))
  have HB2 := Lib.hid hb2
  have H1 := Lib.hid (h.below hb2)
  have H2 := Lib.hid (h'.below hb2)
  clear hb0 hb2 h h'
  go_enter Tryz.func82, Tryz.ntmps82
  go_upto_region 1 with fail
  generalize World.alloc (World.alloc w _) _ = w1 at *
  have k0 := HK1.out.cell 0
  have k1 := HK1.out.cell 1
  have l1 := HK1.out.lt
  have HP := Lib.hid (fun W (hW : Below w1.heap.size w1 W) => impl_put _ _ L M W (H1.out.below hW) (H2.out.below hW) hl)
  refine wp_region_sched (Below w1.heap.size w1) 7 [0, 1, 2, 4, 5] [0, 1, 2, 4, 5, 3, 6] (by kernel_rfl) (by kernel_rfl) (Below.refl _ _).drew ?_
  repeat
    apply wpSched_q rfl rfl
    case h =>
      intro w' hI K hK
      have k0' := (hI.cell (p := ⟨w.heap.size, 0, none⟩) l1).trans k0
      have k1' := (hI.cell (p := ⟨w.heap.size, 1, none⟩) l1).trans k1
      simp only [quietV, stillV]
      go_simp
      exact hK
    go_simp
  refine wpSched_r rfl rfl ?_ (Below.refl _ _).drew
  intro K hK _
  go_simp
  refine (HP.out _ (Below.refl _ _).drew).mono ?_
  rintro e w2 ⟨r, rfl, ho, hb⟩
  obtain ⟨Ar, cr, er⟩ := ho.opn
  subst er
  have hb2 : Below w1.heap.size w1 w2 := (Below.refl _ _).drew.trans hb
  refine hK _ _ hb2 ?_
  have hz1 := HB2.out.size
  have O2 := Lib.hid (ho.mono (show w.heap.size ≤ w1.drew.heap.size from hz1))
  have OB := Lib.hid ho
  have L2 := Lib.hid HK2.out.lt
  clear hK K hb ho
  refine wpSched_r rfl rfl ?_ hb2
  intro K hK _
  go_simp
  refine hK _ _ hb2 ?_
  clear hK K
  refine wpSched_nil ?_
  try simp only [List.drop_succ_cons, List.drop_zero, List.drop_nil]
  have r2 := HK2.out.below hb2 HK2.out.lt
  have rc := r2.cell
  have rf := r2.frozen
  have rl := r2.lt
  have HB3 := Lib.hid (bthen HB2.out hb2)
  have O3 := Lib.hid (O2.out.sl)
  clear hb2 HP HK1 k0 k1 l1 H1 H2
  go_wp2
  refine bodyPost_ret (v := .agg #[.slice Ar (bs (sbI8 (L ++ M))).length cr, .string s]) (by simp [results, Tryz.results82, go_sem, rc, rf, rl]) rfl ⟨_, rfl, ?_, ?_⟩
  · have hx : ∀ k, Value.ownBlock (.slice Ar (bs (sbI8 (L ++ M))).length cr) = some k → ¬ k = w.heap.size + 1 := fun k hk e => by
      have h1 := (OB.out.block k hk).1
      have h2 := L2.out
      have h3 : w1.heap.size ≤ k := h1
      omega
    exact O2.out.kps (S := fun k => k = w.heap.size + 1) (((KpS.refl (fun k => k = w.heap.size + 1) _).set (p := ⟨w.heap.size + 1, 0, none⟩) rfl _).set (p := ⟨w.heap.size + 1, 1, none⟩) rfl _) hx
  · exact (HB3.out.setCell (Nat.le_succ _) _).setCell (Nat.le_succ _) _
set_option maxRecDepth 100000 in
theorem impl_instead (A B : Option Addr) (n c m d : Nat) (s : ByteArray) (L M : List T8) (t : T8) (w : World) (h : Sl cS w (.slice A n c) (bs L)) (h' : Sl cS w (.slice B m d) (bs M)) (hl : L.length + M.length ≤ 1048576) :
    Calls Tryz.prog 93 #[.agg #[.slice A n c, .string s], .string ⟨⟨t⟩⟩, .slice B m d] w fun e w' => ∃ r, e = .returned (.agg #[r, .string s]) ∧ Ow cS 9 w.heap.size w' r (bs (sbI8 ((L.filter fun x => !decide (x = t)) ++ M))) ∧ Below w.heap.size w w' := by
  have hb0 := below_alloc' w (.cells #[.slice A n c, .string s] 80)
  have HK1 := Lib.hid ((Blk.new w 80 #[.slice A n c, .string s]).below (below_alloc' (w.alloc (.cells #[.slice A n c, .string s] 80)) (.cells #[.slice none 0 0, .string ⟨#[]⟩] 80)) (Blk.new w 80 #[.slice A n c, .string s]).lt)
  have HK2 := Lib.hid (Blk.new' (w.alloc (.cells #[.slice A n c, .string s] 80)) 80 #[.slice none 0 0, .string ⟨#[]⟩] (g := w.heap.size + 1) (by simp))
  have hb2 := bthen hb0 (below_alloc' (w.alloc (.cells #[.slice A n c, .string s] 80)) (.cells #[.slice none 0 0, .string ⟨#[]⟩] 80))
  have HB2 := Lib.hid hb2
  have H1 := Lib.hid (h.below hb2)
  have H2 := Lib.hid (h'.below hb2)
  clear hb0 hb2 h h'
  go_enter Tryz.func93, Tryz.ntmps93
  go_upto_region 1 with fail
  generalize World.alloc (World.alloc w _) _ = w1 at *
  have k0 := HK1.out.cell 0
  have k1 := HK1.out.cell 1
  have l1 := HK1.out.lt
  have hlf := List.length_filter_le (fun x => !decide (x = t)) L
  have HQ := Lib.hid (fun W (hW : Below w1.heap.size w1 W) => impl_drop _ L t W (H1.out.below hW) (by omega))
  have HP := Lib.hid (fun W (hW : Below w1.heap.size w1 W) v (hv : Sl cS W v (bs (L.filter fun x => !decide (x = t)))) => impl_put v _ _ M W hv (H2.out.below hW) (by omega))
  clear hlf
  refine wp_region_sched (Below w1.heap.size w1) 9 [0, 1, 2, 4, 6, 7] [0, 1, 2, 4, 6, 7, 3, 5, 8] (by kernel_rfl) (by kernel_rfl) (Below.refl _ _).drew ?_
  repeat
    apply wpSched_q rfl rfl
    case h =>
      intro w' hI K hK
      have k0' := (hI.cell (p := ⟨w.heap.size, 0, none⟩) l1).trans k0
      have k1' := (hI.cell (p := ⟨w.heap.size, 1, none⟩) l1).trans k1
      simp only [quietV, stillV]
      go_simp
      exact hK
    go_simp
  refine wpSched_r rfl rfl ?_ (Below.refl _ _).drew
  intro K hK _
  go_simp
  refine (HQ.out _ (Below.refl _ _).drew).mono ?_
  rintro e w8 ⟨r8, rfl, ho8, hb8⟩
  obtain ⟨A8, c8, e8⟩ := ho8.opn
  subst e8
  have hb8' : Below w1.heap.size w1 w8 := (Below.refl _ _).drew.trans hb8
  refine hK _ _ hb8' ?_
  have O8 := Lib.hid ho8.sl
  clear hK K hb8 ho8
  refine wpSched_r rfl rfl ?_ hb8'
  intro K hK _
  go_simp
  refine (HP.out _ hb8' _ O8.out).mono ?_
  rintro e w2 ⟨r, rfl, ho, hb⟩
  obtain ⟨Ar, cr, er⟩ := ho.opn
  subst er
  have hb2 : Below w1.heap.size w1 w2 := bthen hb8' hb
  refine hK _ _ hb2 ?_
  have hz1 := HB2.out.size
  have O2 := Lib.hid (ho.mono (show w.heap.size ≤ w8.heap.size from Nat.le_trans hz1 hb8'.size))
  have hz8 := Lib.hid hb8'.size
  have OB := Lib.hid ho
  have L2 := Lib.hid HK2.out.lt
  clear hK K hb ho
  refine wpSched_r rfl rfl ?_ hb2
  intro K hK _
  go_simp
  refine hK _ _ hb2 ?_
  clear hK K
  refine wpSched_nil ?_
  try simp only [List.drop_succ_cons, List.drop_zero, List.drop_nil]
  have r2 := HK2.out.below hb2 HK2.out.lt
  have rc := r2.cell
  have rf := r2.frozen
  have rl := r2.lt
  have HB3 := Lib.hid (bthen HB2.out hb2)
  have O3 := Lib.hid (O2.out.sl)
  clear hb2 HP HK1 k0 k1 l1 H1 H2
  go_wp2
  refine bodyPost_ret (v := .agg #[.slice Ar (bs (sbI8 ((L.filter fun x => !decide (x = t)) ++ M))).length cr, .string s]) (by simp [results, Tryz.results93, go_sem, rc, rf, rl]) rfl ⟨_, rfl, ?_, ?_⟩
  · have hx : ∀ k, Value.ownBlock (.slice Ar (bs (sbI8 ((L.filter fun x => !decide (x = t)) ++ M))).length cr) = some k → ¬ k = w.heap.size + 1 := fun k hk e => by
      have h1 := (OB.out.block k hk).1
      have h2 := L2.out
      have h3 : w1.heap.size ≤ k := Nat.le_trans hz8.out h1
      omega
    exact O2.out.kps (S := fun k => k = w.heap.size + 1) (((KpS.refl (fun k => k = w.heap.size + 1) _).set (p := ⟨w.heap.size + 1, 0, none⟩) rfl _).set (p := ⟨w.heap.size + 1, 1, none⟩) rfl _) hx
  · exact (HB3.out.setCell (Nat.le_succ _) _).setCell (Nat.le_succ _) _
end Go.Proofs.YtaigiopoogbbbaaGreat
