/- Joined of several texts: 02R, 02Q, 02P, 02S. -/
import Derived.Test.YtcikenffeekkeaaGreatDoorY20
import Derived.Test.YtcikenffeekkeaaGreatDoorY21
import Derived.Test.YtcikenffeekkeaaGreatDoorY09
import Derived.Test.YtcikenffeekkeaaGreatDoorY11
import Derived.Test.YtcikenffeekkeaaGreatDoorY17
import Derived.Laws.RangeString
import Derived.Lib.OthersKept
namespace Go.Proofs.YtcikenffeekkeaaGreatDoor
open Go.RowKit
set_option linter.unusedVariables false
set_option linter.unusedSimpArgs false
/- Contracts of the readers of formulas' texts: taking a byte (written by gen02R.py). -/
theorem nx_at {s : ByteArray} {i : Nat} (h : i < s.size) : nx s i false = some s[i].toNat := by
  unfold nx
  rw [Array.getElem?_eq_getElem (show i < s.data.size from h)]
  rfl
theorem nx_end {s : ByteArray} {i : Nat} {bad : Bool} (h : s.size ≤ i) : nx s i bad = none := by
  unfold nx
  cases bad
  · rw [if_neg (by decide), Array.getElem?_eq_none (show s.data.size ≤ i from h)]; rfl
  · rfl
theorem sp_take (s : ByteArray) (g i b : Nat) (bad : Bool) (w : World) (h : Blk w g 163 #[.string s, .int .i64 (i : Int), .bool bad]) (hi : i ≤ s.size) (hs : s.size ≤ 1000) :
    Calls Tryz.prog 142 #[.pointer (some ⟨g, 0, none⟩), .int .u8 (b : Int)] w fun e w' => e = .returned (.bool (nx s i bad == some b)) ∧ Blk w' g 163 #[.string s, .int .i64 ((if nx s i bad == some b then i + 1 else i : Nat) : Int), .bool bad] ∧ w.grownBy w' (some g) := by
  have hw : ∀ n, Blk (w.drewN n) g 163 #[.string s, .int .i64 (i : Int), .bool bad] := fun n => h.below (below_drewN (Below.refl _ _) n) h.lt
  have HW := Lib.hid hw
  clear hw
  have kr := h.cell
  have fr := h.frozen
  have lr := h.lt
  clear h
  cases bad with
  | true =>
    rw [show (nx s i true == some b) = false from rfl, if_neg (by decide)]
    go_enter Tryz.func142, Tryz.ntmps142
    go_upto_region 1 with fail
    go_quiet (fail)
    clear kr fr lr
    go_wp2
    go_ret
    exact ⟨rfl, HW.out _, grown_drewN (World.grownBy.refl _ _) _⟩
  | false =>
    rcases Nat.lt_or_ge i s.size with hlt | hge
    · have HD := Lib.hid (nx_at hlt)
      by_cases hc : s[i].toNat = b
      · have hcc : ((s[i].toNat : Int) == (b : Int)) = true := by rw [hc]; simp
        rw [show (nx s i false == some b) = true by rw [HD.out, hc]; simp, if_pos rfl]
        clear HD
        go_enter Tryz.func142, Tryz.ntmps142
        go_upto_region 1 with fail
        go_quiet (fail)
        have kq := (HW.out nq).cell
        have fq := (HW.out nq).frozen
        have lq := (HW.out nq).lt
        clear kr fr lr hcc
        have hb9 := (HW.out nq).set_ 1 (.int .i64 ((i : Int) + 1))
        have hg9 := grown_set (grown_drewN (World.grownBy.refl w (some g)) nq) rfl 1 (.int .i64 ((i : Int) + 1))
        have B9 := Lib.hid hb9
        have G9 := Lib.hid hg9
        clear hb9 hg9
        go_wp2
        go_ret
        exact ⟨rfl, B9.out, G9.out⟩
      · have hcc : ((s[i].toNat : Int) == (b : Int)) = false := by simp; omega
        rw [show (nx s i false == some b) = false by rw [HD.out]; simpa using hc, if_neg (by decide)]
        clear HD
        go_enter Tryz.func142, Tryz.ntmps142
        go_upto_region 1 with fail
        go_quiet (fail)
        clear kr fr lr hcc
        go_wp2
        go_ret
        exact ⟨rfl, HW.out _, grown_drewN (World.grownBy.refl _ _) _⟩
    · obtain rfl : i = s.size := by omega
      rw [nx_end (bad := false) hge, show ((none : Option Nat) == some b) = false from rfl, if_neg (by decide)]
      go_enter Tryz.func142, Tryz.ntmps142
      go_upto_region 1 with fail
      go_quiet (fail)
      clear kr fr lr
      go_wp2
      go_ret
      exact ⟨rfl, HW.out _, grown_drewN (World.grownBy.refl _ _) _⟩
theorem im_take (s : ByteArray) (g i b : Nat) (bad : Bool) (w : World) (h : Blk w g 168 #[.string s, .int .i64 (i : Int), .bool bad]) (hi : i ≤ s.size) (hs : s.size ≤ 1000) :
    Calls Tryz.prog 146 #[.pointer (some ⟨g, 0, none⟩), .int .u8 (b : Int)] w fun e w' => e = .returned (.bool (nx s i bad == some b)) ∧ Blk w' g 168 #[.string s, .int .i64 ((if nx s i bad == some b then i + 1 else i : Nat) : Int), .bool bad] ∧ w.grownBy w' (some g) := by
  have hw : ∀ n, Blk (w.drewN n) g 168 #[.string s, .int .i64 (i : Int), .bool bad] := fun n => h.below (below_drewN (Below.refl _ _) n) h.lt
  have HW := Lib.hid hw
  clear hw
  have kr := h.cell
  have fr := h.frozen
  have lr := h.lt
  clear h
  cases bad with
  | true =>
    rw [show (nx s i true == some b) = false from rfl, if_neg (by decide)]
    go_enter Tryz.func146, Tryz.ntmps146
    go_upto_region 1 with fail
    go_quiet (fail)
    clear kr fr lr
    go_wp2
    go_ret
    exact ⟨rfl, HW.out _, grown_drewN (World.grownBy.refl _ _) _⟩
  | false =>
    rcases Nat.lt_or_ge i s.size with hlt | hge
    · have HD := Lib.hid (nx_at hlt)
      by_cases hc : s[i].toNat = b
      · have hcc : ((s[i].toNat : Int) != (b : Int)) = false := by rw [hc]; simp
        rw [show (nx s i false == some b) = true by rw [HD.out, hc]; simp, if_pos rfl]
        clear HD
        go_enter Tryz.func146, Tryz.ntmps146
        go_upto_region 1 with fail
        go_quiet (fail)
        have kq := (HW.out nq).cell
        have fq := (HW.out nq).frozen
        have lq := (HW.out nq).lt
        clear kr fr lr hcc
        have hb9 := (HW.out nq).set_ 1 (.int .i64 ((i : Int) + 1))
        have hg9 := grown_set (grown_drewN (World.grownBy.refl w (some g)) nq) rfl 1 (.int .i64 ((i : Int) + 1))
        have B9 := Lib.hid hb9
        have G9 := Lib.hid hg9
        clear hb9 hg9
        go_wp2
        go_ret
        exact ⟨rfl, B9.out, G9.out⟩
      · have hcc : ((s[i].toNat : Int) != (b : Int)) = true := by simp; omega
        rw [show (nx s i false == some b) = false by rw [HD.out]; simpa using hc, if_neg (by decide)]
        clear HD
        go_enter Tryz.func146, Tryz.ntmps146
        go_upto_region 1 with fail
        go_quiet (fail)
        clear kr fr lr hcc
        go_wp2
        go_ret
        exact ⟨rfl, HW.out _, grown_drewN (World.grownBy.refl _ _) _⟩
    · obtain rfl : i = s.size := by omega
      rw [nx_end (bad := false) hge, show ((none : Option Nat) == some b) = false from rfl, if_neg (by decide)]
      go_enter Tryz.func146, Tryz.ntmps146
      go_upto_region 1 with fail
      go_quiet (fail)
      clear kr fr lr
      go_wp2
      go_ret
      exact ⟨rfl, HW.out _, grown_drewN (World.grownBy.refl _ _) _⟩
theorem sp_need (s : ByteArray) (g i b : Nat) (bad : Bool) (w : World) (h : Blk w g 163 #[.string s, .int .i64 (i : Int), .bool bad]) (hi : i ≤ s.size) (hs : s.size ≤ 1000) :
    Calls Tryz.prog 151 #[.pointer (some ⟨g, 0, none⟩), .int .u8 (b : Int)] w fun e w' => e = .returned (.tuple #[]) ∧ Blk w' g 163 #[.string s, .int .i64 ((ned s i bad b).1 : Int), .bool (ned s i bad b).2] ∧ w.grownBy w' (some g) := by
  have hT := sp_take s g i b bad w h hi hs
  clear h
  by_cases hc : nx s i bad = some b
  · have hn : (nx s i bad == some b) = true := by simpa using hc
    rw [show ned s i bad b = (i + 1, bad) by unfold ned; rw [if_pos hc]]
    rw [hn, if_pos rfl] at hT
    have HT := Lib.hid hT
    clear hT hc hn
    go_enter Tryz.func151, Tryz.ntmps151
    go_wp2_with fail
    refine HT.out.mono ?_
    rintro e w1 ⟨rfl, hB, hG⟩
    have B := Lib.hid hB
    have G := Lib.hid hG
    clear hB hG HT
    go_wp2
    exact bodyPost_end (v := .tuple #[]) (by simp [results, Tryz.results151, go_sem]) rfl ⟨rfl, B.out, G.out⟩
  · have hn : (nx s i bad == some b) = false := by simpa using hc
    rw [show ned s i bad b = (i, true) by unfold ned; rw [if_neg hc]]
    rw [hn, if_neg (by decide)] at hT
    have HT := Lib.hid hT
    clear hT hc hn
    go_enter Tryz.func151, Tryz.ntmps151
    go_wp2_with fail
    refine HT.out.mono ?_
    rintro e w1 ⟨rfl, hB, hG⟩
    have kq := hB.cell
    have fq := hB.frozen
    have lq := hB.lt
    have hb9 := hB.set_ 2 (.bool true)
    have hg9 := grown_set hG rfl 2 (.bool true)
    have B := Lib.hid hb9
    have G := Lib.hid hg9
    clear hB hG HT hb9 hg9
    go_wp2
    exact bodyPost_end (v := .tuple #[]) (by simp [results, Tryz.results151, go_sem]) rfl ⟨rfl, B.out, G.out⟩
theorem im_need (s : ByteArray) (g i b : Nat) (bad : Bool) (w : World) (h : Blk w g 168 #[.string s, .int .i64 (i : Int), .bool bad]) (hi : i ≤ s.size) (hs : s.size ≤ 1000) :
    Calls Tryz.prog 153 #[.pointer (some ⟨g, 0, none⟩), .int .u8 (b : Int)] w fun e w' => e = .returned (.tuple #[]) ∧ Blk w' g 168 #[.string s, .int .i64 ((ned s i bad b).1 : Int), .bool (ned s i bad b).2] ∧ w.grownBy w' (some g) := by
  have hT := im_take s g i b bad w h hi hs
  clear h
  by_cases hc : nx s i bad = some b
  · have hn : (nx s i bad == some b) = true := by simpa using hc
    rw [show ned s i bad b = (i + 1, bad) by unfold ned; rw [if_pos hc]]
    rw [hn, if_pos rfl] at hT
    have HT := Lib.hid hT
    clear hT hc hn
    go_enter Tryz.func153, Tryz.ntmps153
    go_wp2_with fail
    refine HT.out.mono ?_
    rintro e w1 ⟨rfl, hB, hG⟩
    have B := Lib.hid hB
    have G := Lib.hid hG
    clear hB hG HT
    go_wp2
    exact bodyPost_end (v := .tuple #[]) (by simp [results, Tryz.results153, go_sem]) rfl ⟨rfl, B.out, G.out⟩
  · have hn : (nx s i bad == some b) = false := by simpa using hc
    rw [show ned s i bad b = (i, true) by unfold ned; rw [if_neg hc]]
    rw [hn, if_neg (by decide)] at hT
    have HT := Lib.hid hT
    clear hT hc hn
    go_enter Tryz.func153, Tryz.ntmps153
    go_wp2_with fail
    refine HT.out.mono ?_
    rintro e w1 ⟨rfl, hB, hG⟩
    have kq := hB.cell
    have fq := hB.frozen
    have lq := hB.lt
    have hb9 := hB.set_ 2 (.bool true)
    have hg9 := grown_set hG rfl 2 (.bool true)
    have B := Lib.hid hb9
    have G := Lib.hid hg9
    clear hB hG HT hb9 hg9
    go_wp2
    exact bodyPost_end (v := .tuple #[]) (by simp [results, Tryz.results153, go_sem]) rfl ⟨rfl, B.out, G.out⟩
/- Contracts of the reader of formulas' texts, of the reference: its levels (written by gen02Q.py). -/
/-- a level of a reader: from this state it gives what the relation says -/
def RdC (f : Nat) (ty : TypeId) (s : ByteArray) (l : Lv) (i : Nat) (bad : Bool) : Prop := ∀ (g : Nat) (W : World), Blk W g ty #[.string s, .int .i64 (i : Int), .bool bad] → i ≤ s.size →
  Calls Tryz.prog f #[.pointer (some ⟨g, 0, none⟩)] W fun e w' => ∃ (u : Value) (a : Fm) (j : Nat) (c : Bool), e = .returned u ∧ Rdf s l .fls i bad a j c ∧ Ow cN 75 W.heap.size w' u (enc a) ∧ Blk w' g ty #[.string s, .int .i64 (j : Int), .bool c] ∧ W.grownBy w' (some g)
theorem keepG {α : Type} {K : Cod α} {e : TypeId} {B g : Nat} {X Y : World} {u : Value} {L : List α} (h : Ow K e B X u L) (hg : X.grownBy Y (some g)) (hlt : g < B) : Ow K e B Y u L := h.kept hg (by
  cases hv : u.ownBlock with
  | none => exact .inl rfl
  | some k => exact .inr (fun e => by injection e; have := h.block k hv; omega))
theorem grG {w X Y : World} {g : Nat} (h : w.grownBy X (some g)) (k : X.grownBy Y (some g)) : w.grownBy Y (some g) :=
  ⟨k.os.trans h.os, k.tape.trans h.tape, k.output.trans h.output, Nat.le_trans h.size k.size, fun i hi hne => (k.block i (Nat.lt_of_lt_of_le hi h.size) hne).trans (h.block i hi hne)⟩
theorem grB {w X Y : World} {g : Nat} (h : w.grownBy X (some g)) (k : Below X.heap.size X Y) : w.grownBy Y (some g) :=
  ⟨k.os.trans h.os, k.tape.trans h.tape, k.output.trans h.output, Nat.le_trans h.size k.size, fun i hi hne => (k.block i (Nat.lt_of_lt_of_le hi h.size)).trans (h.block i hi hne)⟩
def posN : Option Value → Nat
  | some (.int _ x) => x.toNat
  | _ => 0
set_option maxRecDepth 100000 in
set_option maxHeartbeats 4000000 in
theorem sR_and (s : ByteArray) (hs : s.size ≤ 1000) (n : Nat) (hp : ∀ i bad, mz s i bad ≤ n → RdC 149 163 s .pre i bad) : ∀ i bad, mz s i bad ≤ n → RdC 147 163 s .and i bad := by
  intro i bad hm g W h hi
  have HP := Lib.hid hp
  have HB := Lib.hid h
  have ZG : Hid (g < W.heap.size) := Lib.hid h.lt
  have HF := Lib.hid (hp i bad hm g W h hi)
  clear hp h
  go_enter Tryz.func147, Tryz.ntmps147
  go_wp2_with fail
  refine HF.out.mono ?_
  rintro e w1 ⟨u, a, j, c, rfl, hR, ho, hB, hG⟩
  have hj := hR.len.2.1 hi
  have hij := hR.len.1
  have hL : (enc a).length ≤ 1 + 3 * j := by have := hR.len1 rfl; omega
  have hmj : mz s j c ≤ n := Nat.le_trans hR.mz hm
  have HT : ∀ o k d, Rdf s .andT a j c o k d → Rdf s .and .fls i bad o k d := fun o k d t => .and hR t
  have O := Lib.hid ho
  have B := Lib.hid hB
  have G := Lib.hid hG
  replace HT := Lib.hid HT
  clear ho hB hG hR HF HB
  go_wp2
  go_loopw [3] (fun u wr => ∃ (a : Fm) (j : Nat) (c : Bool), j ≤ s.size ∧ (enc a).length ≤ 1 + 3 * j ∧ mz s j c ≤ n ∧ (∀ o k d, Rdf s .andT a j c o k d → Rdf s .and .fls i bad o k d) ∧ Ow cN 75 W.heap.size wr u (enc a) ∧ Blk wr g 163 #[.string s, .int .i64 (j : Int), .bool c] ∧ W.grownBy wr (some g)) (fun _ wr => s.size - posN (wr.cell? ⟨g, 1, none⟩))
  case atStart => exact ⟨a, j, c, hj, hL, hmj, HT.out, O.out, B.out, G.out⟩
  case round =>
    clear hj hL hmj HT O B G hij hm
    obtain ⟨a, j, c, hj, hL, hmj, HT, O, B, G⟩ := hrel
    replace HT := Lib.hid HT
    replace O := Lib.hid O
    replace B := Lib.hid B
    replace G := Lib.hid G
    have HK := Lib.hid (sp_take s g j 38 c wr B.out hj hs)
    by_cases hc : nx s j c = some 38
    · have hn : (nx s j c == some 38) = true := by simpa using hc
      rw [hn, if_pos rfl] at HK
      have hm1 := nx_mz hc hmj
      have hj1 := (nx_lt hc).1
      have HTC := Lib.hid (fun b k d hb o k' d' t => HT.out o k' d' (.andC hc (b := b) (j := k) (c := d) hb t))
      have hpos : posN (wr.cell? ⟨g, 1, none⟩) = j := by rw [B.out.cell 1]; simp [posN]
      have HPOS := Lib.hid hpos
      clear hc hn HT hpos
      go_wp2_with fail
      refine HK.out.mono ?_
      rintro e w2 ⟨rfl, hB, hG⟩
      replace O := Lib.hid (keepG O.out hG ZG.out)
      replace G := Lib.hid (grG G.out hG)
      have HF := Lib.hid (HP.out (j + 1) c (by omega) g w2 hB hj1)
      clear hB hG HK B
      go_wp2_with fail
      refine HF.out.mono ?_
      rintro e w3 ⟨u2, b, k, d, rfl, hR, ho, hB, hG⟩
      have hk := hR.len.2.1 hj1
      have hjk := hR.len.1
      have hLb := hR.len1 rfl
      have hmk : mz s k d ≤ n := by have := hR.mz; omega
      have hT2 := HTC.out b k d hR
      replace O := Lib.hid (keepG O.out hG ZG.out)
      have ZW : W.heap.size ≤ w2.heap.size := G.out.size
      replace G := Lib.hid (grG G.out hG)
      have O2 := Lib.hid (ho.mono ZW)
      have B := Lib.hid hB
      have HT := Lib.hid hT2
      clear ho hB hG hR HF HTC hT2
      have hl1 : (enc a).length ≤ 4000 := by omega
      have hl2 : (enc b).length ≤ 4000 := by omega
      go_wp2_with fail
      refine (spec_l02Pair 2 _ _ (enc a) (enc b) _ O.out.sl O2.out.sl (by have := hl1; omega) (by have := hl2; omega)).mono ?_
      rintro e w4 ⟨r, rfl, ho, hb⟩
      have ZW3 : W.heap.size ≤ w3.heap.size := G.out.size
      have O3 : Hid (Ow cN 75 W.heap.size w4 r (enc (.bin .and a b))) := Lib.hid (by have := ho.mono ZW3; simpa [enc, BK.i] using this)
      have hL3 : (enc (.bin .and a b)).length ≤ 1 + 3 * k := by simp only [enc, List.length_cons, List.length_append]; omega
      replace B := Lib.hid (B.out.below hb B.out.lt)
      replace G := Lib.hid (grB G.out hb)
      have HL3 := Lib.hid hL3
      clear ho hb O O2 hL3 ZW3 ZW
      have hlt : s.size - posN (w4.cell? ⟨g, 1, none⟩) < s.size - posN (wr.cell? ⟨g, 1, none⟩) := by
        rw [HPOS.out, B.out.cell 1]
        simp [posN]
        omega
      have HLT := Lib.hid hlt
      obtain ⟨A9, c9, hv9⟩ := O3.out.opn
      subst hv9
      clear hlt HPOS
      go_wp2
      exact ⟨⟨.bin .and a b, k, d, hk, HL3.out, hmk, HT.out, O3.out, B.out, G.out⟩, HLT.out⟩
    · have hn : (nx s j c == some 38) = false := by simpa using hc
      rw [hn, if_neg (by decide)] at HK
      have HR := Lib.hid (HT.out _ _ _ (.andS hc))
      clear hc hn HT
      obtain ⟨A9, c9, hv9⟩ := O.out.opn
      subst hv9
      go_wp2_with fail
      refine HK.out.mono ?_
      rintro e w2 ⟨rfl, hB, hG⟩
      replace O := Lib.hid (keepG O.out hG ZG.out)
      replace G := Lib.hid (grG G.out hG)
      replace B := Lib.hid hB
      clear hB hG HK
      go_wp2
      go_ret
      exact ⟨_, a, j, c, rfl, HR.out, O.out, B.out, G.out⟩
set_option maxRecDepth 100000 in
set_option maxHeartbeats 4000000 in
theorem sR_or (s : ByteArray) (hs : s.size ≤ 1000) (n : Nat) (hp : ∀ i bad, mz s i bad ≤ n → RdC 147 163 s .and i bad) : ∀ i bad, mz s i bad ≤ n → RdC 141 163 s .or i bad := by
  intro i bad hm g W h hi
  have HP := Lib.hid hp
  have HB := Lib.hid h
  have ZG : Hid (g < W.heap.size) := Lib.hid h.lt
  have HF := Lib.hid (hp i bad hm g W h hi)
  clear hp h
  go_enter Tryz.func141, Tryz.ntmps141
  go_wp2_with fail
  refine HF.out.mono ?_
  rintro e w1 ⟨u, a, j, c, rfl, hR, ho, hB, hG⟩
  have hj := hR.len.2.1 hi
  have hij := hR.len.1
  have hL : (enc a).length ≤ 1 + 3 * j := by have := hR.len1 rfl; omega
  have hmj : mz s j c ≤ n := Nat.le_trans hR.mz hm
  have HT : ∀ o k d, Rdf s .orT a j c o k d → Rdf s .or .fls i bad o k d := fun o k d t => .or hR t
  have O := Lib.hid ho
  have B := Lib.hid hB
  have G := Lib.hid hG
  replace HT := Lib.hid HT
  clear ho hB hG hR HF HB
  go_wp2
  go_loopw [3] (fun u wr => ∃ (a : Fm) (j : Nat) (c : Bool), j ≤ s.size ∧ (enc a).length ≤ 1 + 3 * j ∧ mz s j c ≤ n ∧ (∀ o k d, Rdf s .orT a j c o k d → Rdf s .or .fls i bad o k d) ∧ Ow cN 75 W.heap.size wr u (enc a) ∧ Blk wr g 163 #[.string s, .int .i64 (j : Int), .bool c] ∧ W.grownBy wr (some g)) (fun _ wr => s.size - posN (wr.cell? ⟨g, 1, none⟩))
  case atStart => exact ⟨a, j, c, hj, hL, hmj, HT.out, O.out, B.out, G.out⟩
  case round =>
    clear hj hL hmj HT O B G hij hm
    obtain ⟨a, j, c, hj, hL, hmj, HT, O, B, G⟩ := hrel
    replace HT := Lib.hid HT
    replace O := Lib.hid O
    replace B := Lib.hid B
    replace G := Lib.hid G
    have HK := Lib.hid (sp_take s g j 124 c wr B.out hj hs)
    by_cases hc : nx s j c = some 124
    · have hn : (nx s j c == some 124) = true := by simpa using hc
      rw [hn, if_pos rfl] at HK
      have hm1 := nx_mz hc hmj
      have hj1 := (nx_lt hc).1
      have HTC := Lib.hid (fun b k d hb o k' d' t => HT.out o k' d' (.orC hc (b := b) (j := k) (c := d) hb t))
      have hpos : posN (wr.cell? ⟨g, 1, none⟩) = j := by rw [B.out.cell 1]; simp [posN]
      have HPOS := Lib.hid hpos
      clear hc hn HT hpos
      go_wp2_with fail
      refine HK.out.mono ?_
      rintro e w2 ⟨rfl, hB, hG⟩
      replace O := Lib.hid (keepG O.out hG ZG.out)
      replace G := Lib.hid (grG G.out hG)
      have HF := Lib.hid (HP.out (j + 1) c (by omega) g w2 hB hj1)
      clear hB hG HK B
      go_wp2_with fail
      refine HF.out.mono ?_
      rintro e w3 ⟨u2, b, k, d, rfl, hR, ho, hB, hG⟩
      have hk := hR.len.2.1 hj1
      have hjk := hR.len.1
      have hLb := hR.len1 rfl
      have hmk : mz s k d ≤ n := by have := hR.mz; omega
      have hT2 := HTC.out b k d hR
      replace O := Lib.hid (keepG O.out hG ZG.out)
      have ZW : W.heap.size ≤ w2.heap.size := G.out.size
      replace G := Lib.hid (grG G.out hG)
      have O2 := Lib.hid (ho.mono ZW)
      have B := Lib.hid hB
      have HT := Lib.hid hT2
      clear ho hB hG hR HF HTC hT2
      have hl1 : (enc a).length ≤ 4000 := by omega
      have hl2 : (enc b).length ≤ 4000 := by omega
      go_wp2_with fail
      refine (spec_l02Pair 3 _ _ (enc a) (enc b) _ O.out.sl O2.out.sl (by have := hl1; omega) (by have := hl2; omega)).mono ?_
      rintro e w4 ⟨r, rfl, ho, hb⟩
      have ZW3 : W.heap.size ≤ w3.heap.size := G.out.size
      have O3 : Hid (Ow cN 75 W.heap.size w4 r (enc (.bin .or a b))) := Lib.hid (by have := ho.mono ZW3; simpa [enc, BK.i] using this)
      have hL3 : (enc (.bin .or a b)).length ≤ 1 + 3 * k := by simp only [enc, List.length_cons, List.length_append]; omega
      replace B := Lib.hid (B.out.below hb B.out.lt)
      replace G := Lib.hid (grB G.out hb)
      have HL3 := Lib.hid hL3
      clear ho hb O O2 hL3 ZW3 ZW
      have hlt : s.size - posN (w4.cell? ⟨g, 1, none⟩) < s.size - posN (wr.cell? ⟨g, 1, none⟩) := by
        rw [HPOS.out, B.out.cell 1]
        simp [posN]
        omega
      have HLT := Lib.hid hlt
      obtain ⟨A9, c9, hv9⟩ := O3.out.opn
      subst hv9
      clear hlt HPOS
      go_wp2
      exact ⟨⟨.bin .or a b, k, d, hk, HL3.out, hmk, HT.out, O3.out, B.out, G.out⟩, HLT.out⟩
    · have hn : (nx s j c == some 124) = false := by simpa using hc
      rw [hn, if_neg (by decide)] at HK
      have HR := Lib.hid (HT.out _ _ _ (.orS hc))
      clear hc hn HT
      obtain ⟨A9, c9, hv9⟩ := O.out.opn
      subst hv9
      go_wp2_with fail
      refine HK.out.mono ?_
      rintro e w2 ⟨rfl, hB, hG⟩
      replace O := Lib.hid (keepG O.out hG ZG.out)
      replace G := Lib.hid (grG G.out hG)
      replace B := Lib.hid hB
      clear hB hG HK
      go_wp2
      go_ret
      exact ⟨_, a, j, c, rfl, HR.out, O.out, B.out, G.out⟩
set_option maxRecDepth 100000 in
set_option maxHeartbeats 4000000 in
theorem sR_imp (s : ByteArray) (hs : s.size ≤ 1000) (n : Nat) (hp : ∀ i bad, mz s i bad ≤ n → RdC 141 163 s .or i bad) (hq : ∀ i bad, mz s i bad < n → RdC 136 163 s .imp i bad) : ∀ i bad, mz s i bad ≤ n → RdC 136 163 s .imp i bad := by
  intro i bad hm g W h hi
  have HQ := Lib.hid hq
  have ZG : Hid (g < W.heap.size) := Lib.hid h.lt
  have HF := Lib.hid (hp i bad hm g W h hi)
  clear hp hq h
  go_enter Tryz.func136, Tryz.ntmps136
  go_wp2_with fail
  refine HF.out.mono ?_
  rintro e w1 ⟨u, a, j, c, rfl, hR, ho, hB, hG⟩
  have hj := hR.len.2.1 hi
  have hij := hR.len.1
  have hL := hR.len1 rfl
  have hmj : mz s j c ≤ n := Nat.le_trans hR.mz hm
  have HR := Lib.hid hR
  have O := Lib.hid ho
  have G := Lib.hid hG
  have HK := Lib.hid (sp_take s g j 62 c w1 hB hj hs)
  clear ho hB hG hR HF
  by_cases hc : nx s j c = some 62
  · have hn : (nx s j c == some 62) = true := by simpa using hc
    rw [hn, if_pos rfl] at HK
    have hm1 := nx_mz hc hmj
    have hj1 := (nx_lt hc).1
    have HRC := Lib.hid (fun b k d hb => Rdf.impC (x := .fls) HR.out hc (b := b) (k := k) (d := d) hb)
    clear hc hn
    go_wp2_with fail
    refine HK.out.mono ?_
    rintro e w2 ⟨rfl, hB, hG⟩
    replace O := Lib.hid (keepG O.out hG ZG.out)
    replace G := Lib.hid (grG G.out hG)
    have HF := Lib.hid (HQ.out (j + 1) c hm1 g w2 hB hj1)
    clear hB hG HK
    go_wp2_with fail
    refine HF.out.mono ?_
    rintro e w3 ⟨u2, b, k, d, rfl, hR, ho, hB, hG⟩
    have hk := hR.len.2.1 hj1
    have hjk := hR.len.1
    have hLb := hR.len1 rfl
    have hT2 := HRC.out b k d hR
    replace O := Lib.hid (keepG O.out hG ZG.out)
    have ZW : W.heap.size ≤ w2.heap.size := G.out.size
    replace G := Lib.hid (grG G.out hG)
    have O2 := Lib.hid (ho.mono ZW)
    have B := Lib.hid hB
    have HT := Lib.hid hT2
    clear ho hB hG hR HF HRC hT2 HR
    have hl1 : (enc a).length ≤ 4000 := by omega
    have hl2 : (enc b).length ≤ 4000 := by omega
    go_wp2_with fail
    refine (spec_l02Pair 4 _ _ (enc a) (enc b) _ O.out.sl O2.out.sl (by have := hl1; omega) (by have := hl2; omega)).mono ?_
    rintro e w4 ⟨r, rfl, ho, hb⟩
    have ZW3 : W.heap.size ≤ w3.heap.size := G.out.size
    have O3 : Hid (Ow cN 75 W.heap.size w4 r (enc (.bin .imp a b))) := Lib.hid (by have := ho.mono ZW3; simpa [enc, BK.i] using this)
    replace B := Lib.hid (B.out.below hb B.out.lt)
    replace G := Lib.hid (grB G.out hb)
    clear ho hb O O2 ZW3 ZW
    obtain ⟨A9, c9, hv9⟩ := O3.out.opn
    subst hv9
    go_wp2
    go_ret
    exact ⟨_, .bin .imp a b, k, d, rfl, HT.out, O3.out, B.out, G.out⟩
  · have hn : (nx s j c == some 62) = false := by simpa using hc
    rw [hn, if_neg (by decide)] at HK
    replace HR := Lib.hid (Rdf.impS (x := .fls) HR.out hc)
    clear hc hn
    obtain ⟨A9, c9, hv9⟩ := O.out.opn
    subst hv9
    go_wp2_with fail
    refine HK.out.mono ?_
    rintro e w2 ⟨rfl, hB, hG⟩
    replace O := Lib.hid (keepG O.out hG ZG.out)
    replace G := Lib.hid (grG G.out hG)
    have B := Lib.hid hB
    clear hB hG HK
    go_wp2
    go_ret
    exact ⟨_, a, j, c, rfl, HR.out, O.out, B.out, G.out⟩
theorem spec_l02VarR (k : Int) (w : World) : Calls Tryz.prog 120 #[.int .i64 k] w fun e w' => ∃ u, e = .returned u ∧ Ow cN 75 w.heap.size w' u [(0, k)] ∧ Below w.heap.size w w' := by
  go_enter Tryz.func120, Tryz.ntmps120
  go_wp2
  go_ret
  exact ⟨_, rfl, Ow.lit [(0, k)] rfl rfl (Nat.le_refl _), (Below.refl _ _).alloc (Nat.le_refl _) _⟩
set_option maxRecDepth 100000 in
set_option maxHeartbeats 4000000 in
theorem sR_pre (s : ByteArray) (hs : s.size ≤ 1000) (n : Nat) (hp : ∀ i bad, mz s i bad < n → RdC 149 163 s .pre i bad) (hq : ∀ i bad, mz s i bad < n → RdC 136 163 s .imp i bad) : ∀ i bad, mz s i bad ≤ n → RdC 149 163 s .pre i bad := by
  intro i bad hm g W h hi
  have HP := Lib.hid hp
  have HQ := Lib.hid hq
  have B := Lib.hid h
  have ZG : Hid (g < W.heap.size) := Lib.hid h.lt
  have Gr := Lib.hid (World.grownBy.refl W (some g))
  clear hp hq h
  go_enter Tryz.func149, Tryz.ntmps149
  go_wp2
  go_loopw [4] (fun x wr => ∃ v : Nat, x = .int .i64 (v : Int) ∧ v ≤ 6 ∧ (∀ u, u < v → nx s i bad ≠ some (112 + u)) ∧ Blk wr g 163 #[.string s, .int .i64 (i : Int), .bool bad] ∧ W.grownBy wr (some g)) (fun x _ => 6 - (intOf x).toNat)
  case atStart => exact ⟨0, rfl, by omega, fun u h => by omega, B.out, Gr.out⟩
  case round =>
    clear B Gr
    obtain ⟨v, rfl, hv, hnv, B, Gr⟩ := hrel
    replace B := Lib.hid B
    replace Gr := Lib.hid Gr
    replace hnv := Lib.hid hnv
    by_cases hv6 : v < 6
    · skip
      have h6 : v = 0 ∨ v = 1 ∨ v = 2 ∨ v = 3 ∨ v = 4 ∨ v = 5 := by omega
      rcases h6 with rfl | rfl | rfl | rfl | rfl | rfl
      · by_cases hc : nx s i bad = some 112
        · skip
          have HK := Lib.hid (sp_take s g i 112 bad _ B.out hi hs)
          rw [show (nx s i bad == some 112) = true by simpa using hc, if_pos rfl] at HK
          go_wp2_with fail
          refine HK.out.mono ?_
          rintro e w1 ⟨rfl, hB, hG⟩
          replace Gr := Lib.hid (grG Gr.out hG)
          replace B := Lib.hid hB
          clear hB hG HK
          go_wp2_with fail
          refine (spec_l02VarR 0 _).mono ?_
          rintro e w2 ⟨u, rfl, ho, hb⟩
          have ZW : W.heap.size ≤ _ := Gr.out.size
          have O : Hid (Ow cN 75 W.heap.size w2 u (enc (.var 0))) := Lib.hid (ho.mono ZW)
          replace B := Lib.hid (B.out.below hb B.out.lt)
          replace Gr := Lib.hid (grB Gr.out hb)
          clear ho hb ZW
          go_wp2
          go_ret
          exact ⟨_, .var 0, _, _, rfl, .var hc (by decide), O.out, B.out, Gr.out⟩
        · have hn112 : Hid ((nx s i bad == some 112) = false) := Lib.hid (by simpa using hc)
          have HNV : Hid (∀ u, u < 0 + 1 → nx s i bad ≠ some (112 + u)) := Lib.hid (fun u hu => by rcases Nat.lt_or_ge u 0 with h | h; exact hnv.out u h; obtain rfl : u = 0 := (by omega); exact hc)
          clear hc
          have HK := Lib.hid (sp_take s g i 112 bad _ B.out hi hs)
          rw [hn112.out, if_neg (by decide)] at HK
          go_wp2_with fail
          refine HK.out.mono ?_
          rintro e w1 ⟨rfl, hB, hG⟩
          replace Gr := Lib.hid (grG Gr.out hG)
          replace B := Lib.hid hB
          clear hB hG HK
          go_wp2
          exact ⟨⟨0 + 1, by go_num, by omega, HNV.out, B.out, Gr.out⟩, by simp [intOf]⟩
      · by_cases hc : nx s i bad = some 113
        · skip
          have HK := Lib.hid (sp_take s g i 113 bad _ B.out hi hs)
          rw [show (nx s i bad == some 113) = true by simpa using hc, if_pos rfl] at HK
          go_wp2_with fail
          refine HK.out.mono ?_
          rintro e w1 ⟨rfl, hB, hG⟩
          replace Gr := Lib.hid (grG Gr.out hG)
          replace B := Lib.hid hB
          clear hB hG HK
          go_wp2_with fail
          refine (spec_l02VarR 1 _).mono ?_
          rintro e w2 ⟨u, rfl, ho, hb⟩
          have ZW : W.heap.size ≤ _ := Gr.out.size
          have O : Hid (Ow cN 75 W.heap.size w2 u (enc (.var 1))) := Lib.hid (ho.mono ZW)
          replace B := Lib.hid (B.out.below hb B.out.lt)
          replace Gr := Lib.hid (grB Gr.out hb)
          clear ho hb ZW
          go_wp2
          go_ret
          exact ⟨_, .var 1, _, _, rfl, .var hc (by decide), O.out, B.out, Gr.out⟩
        · have hn113 : Hid ((nx s i bad == some 113) = false) := Lib.hid (by simpa using hc)
          have HNV : Hid (∀ u, u < 1 + 1 → nx s i bad ≠ some (112 + u)) := Lib.hid (fun u hu => by rcases Nat.lt_or_ge u 1 with h | h; exact hnv.out u h; obtain rfl : u = 1 := (by omega); exact hc)
          clear hc
          have HK := Lib.hid (sp_take s g i 113 bad _ B.out hi hs)
          rw [hn113.out, if_neg (by decide)] at HK
          go_wp2_with fail
          refine HK.out.mono ?_
          rintro e w1 ⟨rfl, hB, hG⟩
          replace Gr := Lib.hid (grG Gr.out hG)
          replace B := Lib.hid hB
          clear hB hG HK
          go_wp2
          exact ⟨⟨1 + 1, by go_num, by omega, HNV.out, B.out, Gr.out⟩, by simp [intOf]⟩
      · by_cases hc : nx s i bad = some 114
        · skip
          have HK := Lib.hid (sp_take s g i 114 bad _ B.out hi hs)
          rw [show (nx s i bad == some 114) = true by simpa using hc, if_pos rfl] at HK
          go_wp2_with fail
          refine HK.out.mono ?_
          rintro e w1 ⟨rfl, hB, hG⟩
          replace Gr := Lib.hid (grG Gr.out hG)
          replace B := Lib.hid hB
          clear hB hG HK
          go_wp2_with fail
          refine (spec_l02VarR 2 _).mono ?_
          rintro e w2 ⟨u, rfl, ho, hb⟩
          have ZW : W.heap.size ≤ _ := Gr.out.size
          have O : Hid (Ow cN 75 W.heap.size w2 u (enc (.var 2))) := Lib.hid (ho.mono ZW)
          replace B := Lib.hid (B.out.below hb B.out.lt)
          replace Gr := Lib.hid (grB Gr.out hb)
          clear ho hb ZW
          go_wp2
          go_ret
          exact ⟨_, .var 2, _, _, rfl, .var hc (by decide), O.out, B.out, Gr.out⟩
        · have hn114 : Hid ((nx s i bad == some 114) = false) := Lib.hid (by simpa using hc)
          have HNV : Hid (∀ u, u < 2 + 1 → nx s i bad ≠ some (112 + u)) := Lib.hid (fun u hu => by rcases Nat.lt_or_ge u 2 with h | h; exact hnv.out u h; obtain rfl : u = 2 := (by omega); exact hc)
          clear hc
          have HK := Lib.hid (sp_take s g i 114 bad _ B.out hi hs)
          rw [hn114.out, if_neg (by decide)] at HK
          go_wp2_with fail
          refine HK.out.mono ?_
          rintro e w1 ⟨rfl, hB, hG⟩
          replace Gr := Lib.hid (grG Gr.out hG)
          replace B := Lib.hid hB
          clear hB hG HK
          go_wp2
          exact ⟨⟨2 + 1, by go_num, by omega, HNV.out, B.out, Gr.out⟩, by simp [intOf]⟩
      · by_cases hc : nx s i bad = some 115
        · skip
          have HK := Lib.hid (sp_take s g i 115 bad _ B.out hi hs)
          rw [show (nx s i bad == some 115) = true by simpa using hc, if_pos rfl] at HK
          go_wp2_with fail
          refine HK.out.mono ?_
          rintro e w1 ⟨rfl, hB, hG⟩
          replace Gr := Lib.hid (grG Gr.out hG)
          replace B := Lib.hid hB
          clear hB hG HK
          go_wp2_with fail
          refine (spec_l02VarR 3 _).mono ?_
          rintro e w2 ⟨u, rfl, ho, hb⟩
          have ZW : W.heap.size ≤ _ := Gr.out.size
          have O : Hid (Ow cN 75 W.heap.size w2 u (enc (.var 3))) := Lib.hid (ho.mono ZW)
          replace B := Lib.hid (B.out.below hb B.out.lt)
          replace Gr := Lib.hid (grB Gr.out hb)
          clear ho hb ZW
          go_wp2
          go_ret
          exact ⟨_, .var 3, _, _, rfl, .var hc (by decide), O.out, B.out, Gr.out⟩
        · have hn115 : Hid ((nx s i bad == some 115) = false) := Lib.hid (by simpa using hc)
          have HNV : Hid (∀ u, u < 3 + 1 → nx s i bad ≠ some (112 + u)) := Lib.hid (fun u hu => by rcases Nat.lt_or_ge u 3 with h | h; exact hnv.out u h; obtain rfl : u = 3 := (by omega); exact hc)
          clear hc
          have HK := Lib.hid (sp_take s g i 115 bad _ B.out hi hs)
          rw [hn115.out, if_neg (by decide)] at HK
          go_wp2_with fail
          refine HK.out.mono ?_
          rintro e w1 ⟨rfl, hB, hG⟩
          replace Gr := Lib.hid (grG Gr.out hG)
          replace B := Lib.hid hB
          clear hB hG HK
          go_wp2
          exact ⟨⟨3 + 1, by go_num, by omega, HNV.out, B.out, Gr.out⟩, by simp [intOf]⟩
      · by_cases hc : nx s i bad = some 116
        · skip
          have HK := Lib.hid (sp_take s g i 116 bad _ B.out hi hs)
          rw [show (nx s i bad == some 116) = true by simpa using hc, if_pos rfl] at HK
          go_wp2_with fail
          refine HK.out.mono ?_
          rintro e w1 ⟨rfl, hB, hG⟩
          replace Gr := Lib.hid (grG Gr.out hG)
          replace B := Lib.hid hB
          clear hB hG HK
          go_wp2_with fail
          refine (spec_l02VarR 4 _).mono ?_
          rintro e w2 ⟨u, rfl, ho, hb⟩
          have ZW : W.heap.size ≤ _ := Gr.out.size
          have O : Hid (Ow cN 75 W.heap.size w2 u (enc (.var 4))) := Lib.hid (ho.mono ZW)
          replace B := Lib.hid (B.out.below hb B.out.lt)
          replace Gr := Lib.hid (grB Gr.out hb)
          clear ho hb ZW
          go_wp2
          go_ret
          exact ⟨_, .var 4, _, _, rfl, .var hc (by decide), O.out, B.out, Gr.out⟩
        · have hn116 : Hid ((nx s i bad == some 116) = false) := Lib.hid (by simpa using hc)
          have HNV : Hid (∀ u, u < 4 + 1 → nx s i bad ≠ some (112 + u)) := Lib.hid (fun u hu => by rcases Nat.lt_or_ge u 4 with h | h; exact hnv.out u h; obtain rfl : u = 4 := (by omega); exact hc)
          clear hc
          have HK := Lib.hid (sp_take s g i 116 bad _ B.out hi hs)
          rw [hn116.out, if_neg (by decide)] at HK
          go_wp2_with fail
          refine HK.out.mono ?_
          rintro e w1 ⟨rfl, hB, hG⟩
          replace Gr := Lib.hid (grG Gr.out hG)
          replace B := Lib.hid hB
          clear hB hG HK
          go_wp2
          exact ⟨⟨4 + 1, by go_num, by omega, HNV.out, B.out, Gr.out⟩, by simp [intOf]⟩
      · by_cases hc : nx s i bad = some 117
        · skip
          have HK := Lib.hid (sp_take s g i 117 bad _ B.out hi hs)
          rw [show (nx s i bad == some 117) = true by simpa using hc, if_pos rfl] at HK
          go_wp2_with fail
          refine HK.out.mono ?_
          rintro e w1 ⟨rfl, hB, hG⟩
          replace Gr := Lib.hid (grG Gr.out hG)
          replace B := Lib.hid hB
          clear hB hG HK
          go_wp2_with fail
          refine (spec_l02VarR 5 _).mono ?_
          rintro e w2 ⟨u, rfl, ho, hb⟩
          have ZW : W.heap.size ≤ _ := Gr.out.size
          have O : Hid (Ow cN 75 W.heap.size w2 u (enc (.var 5))) := Lib.hid (ho.mono ZW)
          replace B := Lib.hid (B.out.below hb B.out.lt)
          replace Gr := Lib.hid (grB Gr.out hb)
          clear ho hb ZW
          go_wp2
          go_ret
          exact ⟨_, .var 5, _, _, rfl, .var hc (by decide), O.out, B.out, Gr.out⟩
        · have hn117 : Hid ((nx s i bad == some 117) = false) := Lib.hid (by simpa using hc)
          have HNV : Hid (∀ u, u < 5 + 1 → nx s i bad ≠ some (112 + u)) := Lib.hid (fun u hu => by rcases Nat.lt_or_ge u 5 with h | h; exact hnv.out u h; obtain rfl : u = 5 := (by omega); exact hc)
          clear hc
          have HK := Lib.hid (sp_take s g i 117 bad _ B.out hi hs)
          rw [hn117.out, if_neg (by decide)] at HK
          go_wp2_with fail
          refine HK.out.mono ?_
          rintro e w1 ⟨rfl, hB, hG⟩
          replace Gr := Lib.hid (grG Gr.out hG)
          replace B := Lib.hid hB
          clear hB hG HK
          go_wp2
          exact ⟨⟨5 + 1, by go_num, by omega, HNV.out, B.out, Gr.out⟩, by simp [intOf]⟩
    · obtain rfl : v = 6 := by omega
      clear hv hv6
      by_cases hc : nx s i bad = some 70
      · skip
        have HK := Lib.hid (sp_take s g i 70 bad _ B.out hi hs)
        rw [show (nx s i bad == some 70) = true by simpa using hc, if_pos rfl] at HK
        go_wp2_with fail
        refine HK.out.mono ?_
        rintro e w1 ⟨rfl, hB, hG⟩
        replace Gr := Lib.hid (grG Gr.out hG)
        replace B := Lib.hid hB
        clear hB hG HK
        go_wp2_with fail
        refine (spec_l02False _).mono ?_
        rintro e w2 ⟨u, rfl, ho, hb⟩
        have ZW : W.heap.size ≤ _ := Gr.out.size
        have O : Hid (Ow cN 75 W.heap.size w2 u (enc (.fls))) := Lib.hid (ho.mono ZW)
        replace B := Lib.hid (B.out.below hb B.out.lt)
        replace Gr := Lib.hid (grB Gr.out hb)
        clear ho hb ZW
        go_wp2
        go_ret
        exact ⟨_, .fls, _, _, rfl, .fls hc, O.out, B.out, Gr.out⟩
      · have hn70 : Hid ((nx s i bad == some 70) = false) := Lib.hid (by simpa using hc)
        clear hc
        have HK := Lib.hid (sp_take s g i 70 bad _ B.out hi hs)
        rw [hn70.out, if_neg (by decide)] at HK
        go_wp2_with fail
        refine HK.out.mono ?_
        rintro e w1 ⟨rfl, hB, hG⟩
        replace Gr := Lib.hid (grG Gr.out hG)
        replace B := Lib.hid hB
        clear hB hG HK
        by_cases hc : nx s i bad = some 84
        · skip
          have HK := Lib.hid (sp_take s g i 84 bad _ B.out hi hs)
          rw [show (nx s i bad == some 84) = true by simpa using hc, if_pos rfl] at HK
          go_wp2_with fail
          refine HK.out.mono ?_
          rintro e w2 ⟨rfl, hB, hG⟩
          replace Gr := Lib.hid (grG Gr.out hG)
          replace B := Lib.hid hB
          clear hB hG HK
          go_wp2_with fail
          refine (spec_l02True _).mono ?_
          rintro e w3 ⟨u, rfl, ho, hb⟩
          have ZW : W.heap.size ≤ _ := Gr.out.size
          have O : Hid (Ow cN 75 W.heap.size w3 u (enc (.bin .imp .fls .fls))) := Lib.hid (ho.mono ZW)
          replace B := Lib.hid (B.out.below hb B.out.lt)
          replace Gr := Lib.hid (grB Gr.out hb)
          clear ho hb ZW
          go_wp2
          go_ret
          exact ⟨_, .bin .imp .fls .fls, _, _, rfl, .tru hc, O.out, B.out, Gr.out⟩
        · have hn84 : Hid ((nx s i bad == some 84) = false) := Lib.hid (by simpa using hc)
          clear hc
          have HK := Lib.hid (sp_take s g i 84 bad _ B.out hi hs)
          rw [hn84.out, if_neg (by decide)] at HK
          go_wp2_with fail
          refine HK.out.mono ?_
          rintro e w2 ⟨rfl, hB, hG⟩
          replace Gr := Lib.hid (grG Gr.out hG)
          replace B := Lib.hid hB
          clear hB hG HK
          by_cases hc : nx s i bad = some 126
          · skip
            have hm1 := nx_mz hc hm
            have hi1 := (nx_lt hc).1
            have HK := Lib.hid (sp_take s g i 126 bad _ B.out hi hs)
            rw [show (nx s i bad == some 126) = true by simpa using hc, if_pos rfl] at HK
            go_wp2_with fail
            refine HK.out.mono ?_
            rintro e w3 ⟨rfl, hB, hG⟩
            replace Gr := Lib.hid (grG Gr.out hG)
            replace B := Lib.hid hB
            clear hB hG HK
            have HF := Lib.hid (HP.out (i + 1) bad hm1 g _ B.out hi1)
            have ZW : W.heap.size ≤ _ := Gr.out.size
            go_wp2_with fail
            refine HF.out.mono ?_
            rintro e w4 ⟨u, a, j, c, rfl, hR, ho, hB, hG⟩
            have hL := hR.len1 rfl
            have hjs := hR.len.2.1 hi1
            have HR := Lib.hid hR
            have O := Lib.hid (ho.mono ZW)
            replace Gr := Lib.hid (grG Gr.out hG)
            replace B := Lib.hid hB
            clear hB hG HF ho hR ZW
            have ZW : W.heap.size ≤ _ := Gr.out.size
            have hl1 : (enc a).length ≤ 4000 := by omega
            go_wp2_with fail
            refine (spec_l02Not _ (enc a) _ O.out.sl (by omega)).mono ?_
            rintro e w5 ⟨r, rfl, ho, hb⟩
            have O3 : Hid (Ow cN 75 W.heap.size w5 r (enc (.bin .imp a .fls))) := Lib.hid (by have := ho.mono ZW; simpa [enc, BK.i, UK.i] using this)
            replace B := Lib.hid (B.out.below hb B.out.lt)
            replace Gr := Lib.hid (grB Gr.out hb)
            clear ho hb ZW O
            obtain ⟨A9, c9, hv9⟩ := O3.out.opn
            subst hv9
            go_wp2
            go_ret
            exact ⟨_, .bin .imp a .fls, _, _, rfl, .not hc HR.out, O3.out, B.out, Gr.out⟩
          · have hn126 : Hid ((nx s i bad == some 126) = false) := Lib.hid (by simpa using hc)
            clear hc
            have HK := Lib.hid (sp_take s g i 126 bad _ B.out hi hs)
            rw [hn126.out, if_neg (by decide)] at HK
            go_wp2_with fail
            refine HK.out.mono ?_
            rintro e w3 ⟨rfl, hB, hG⟩
            replace Gr := Lib.hid (grG Gr.out hG)
            replace B := Lib.hid hB
            clear hB hG HK
            by_cases hc : nx s i bad = some 91
            · skip
              have hm1 := nx_mz hc hm
              have hi1 := (nx_lt hc).1
              have HK := Lib.hid (sp_take s g i 91 bad _ B.out hi hs)
              rw [show (nx s i bad == some 91) = true by simpa using hc, if_pos rfl] at HK
              go_wp2_with fail
              refine HK.out.mono ?_
              rintro e w4 ⟨rfl, hB, hG⟩
              replace Gr := Lib.hid (grG Gr.out hG)
              replace B := Lib.hid hB
              clear hB hG HK
              have HK := Lib.hid (sp_need s g (i + 1) 93 bad _ B.out hi1 hs)
              go_wp2_with fail
              refine HK.out.mono ?_
              rintro e w5 ⟨rfl, hB, hG⟩
              replace Gr := Lib.hid (grG Gr.out hG)
              replace B := Lib.hid hB
              clear hB hG HK
              have hm2 := Nat.lt_of_le_of_lt (ned_mz s (i + 1) bad 93) hm1
              have hi2 := (ned_le s (i + 1) bad 93).2 hi1
              have HF := Lib.hid (HP.out _ _ hm2 g _ B.out hi2)
              have ZW : W.heap.size ≤ _ := Gr.out.size
              go_wp2_with fail
              refine HF.out.mono ?_
              rintro e w6 ⟨u, a, j, c, rfl, hR, ho, hB, hG⟩
              have hL := hR.len1 rfl
              have hjs := hR.len.2.1 hi2
              have HR := Lib.hid hR
              have O := Lib.hid (ho.mono ZW)
              replace Gr := Lib.hid (grG Gr.out hG)
              replace B := Lib.hid hB
              clear hB hG HF ho hR ZW
              have ZW : W.heap.size ≤ _ := Gr.out.size
              have hl1 : (enc a).length ≤ 4000 := by omega
              go_wp2_with fail
              refine (spec_l02Pre 5 _ (enc a) _ O.out.sl (by omega)).mono ?_
              rintro e w7 ⟨r, rfl, ho, hb⟩
              have O3 : Hid (Ow cN 75 W.heap.size w7 r (enc (.un .box a))) := Lib.hid (by have := ho.mono ZW; simpa [enc, BK.i, UK.i] using this)
              replace B := Lib.hid (B.out.below hb B.out.lt)
              replace Gr := Lib.hid (grB Gr.out hb)
              clear ho hb ZW O
              obtain ⟨A9, c9, hv9⟩ := O3.out.opn
              subst hv9
              go_wp2
              go_ret
              exact ⟨_, .un .box a, _, _, rfl, .box hc HR.out, O3.out, B.out, Gr.out⟩
            · have hn91 : Hid ((nx s i bad == some 91) = false) := Lib.hid (by simpa using hc)
              clear hc
              have HK := Lib.hid (sp_take s g i 91 bad _ B.out hi hs)
              rw [hn91.out, if_neg (by decide)] at HK
              go_wp2_with fail
              refine HK.out.mono ?_
              rintro e w4 ⟨rfl, hB, hG⟩
              replace Gr := Lib.hid (grG Gr.out hG)
              replace B := Lib.hid hB
              clear hB hG HK
              by_cases hc : nx s i bad = some 60
              · skip
                have hm1 := nx_mz hc hm
                have hi1 := (nx_lt hc).1
                have HK := Lib.hid (sp_take s g i 60 bad _ B.out hi hs)
                rw [show (nx s i bad == some 60) = true by simpa using hc, if_pos rfl] at HK
                go_wp2_with fail
                refine HK.out.mono ?_
                rintro e w5 ⟨rfl, hB, hG⟩
                replace Gr := Lib.hid (grG Gr.out hG)
                replace B := Lib.hid hB
                clear hB hG HK
                have HK := Lib.hid (sp_need s g (i + 1) 62 bad _ B.out hi1 hs)
                go_wp2_with fail
                refine HK.out.mono ?_
                rintro e w6 ⟨rfl, hB, hG⟩
                replace Gr := Lib.hid (grG Gr.out hG)
                replace B := Lib.hid hB
                clear hB hG HK
                have hm2 := Nat.lt_of_le_of_lt (ned_mz s (i + 1) bad 62) hm1
                have hi2 := (ned_le s (i + 1) bad 62).2 hi1
                have HF := Lib.hid (HP.out _ _ hm2 g _ B.out hi2)
                have ZW : W.heap.size ≤ _ := Gr.out.size
                go_wp2_with fail
                refine HF.out.mono ?_
                rintro e w7 ⟨u, a, j, c, rfl, hR, ho, hB, hG⟩
                have hL := hR.len1 rfl
                have hjs := hR.len.2.1 hi2
                have HR := Lib.hid hR
                have O := Lib.hid (ho.mono ZW)
                replace Gr := Lib.hid (grG Gr.out hG)
                replace B := Lib.hid hB
                clear hB hG HF ho hR ZW
                have ZW : W.heap.size ≤ _ := Gr.out.size
                have hl1 : (enc a).length ≤ 4000 := by omega
                go_wp2_with fail
                refine (spec_l02Pre 6 _ (enc a) _ O.out.sl (by omega)).mono ?_
                rintro e w8 ⟨r, rfl, ho, hb⟩
                have O3 : Hid (Ow cN 75 W.heap.size w8 r (enc (.un .dia a))) := Lib.hid (by have := ho.mono ZW; simpa [enc, BK.i, UK.i] using this)
                replace B := Lib.hid (B.out.below hb B.out.lt)
                replace Gr := Lib.hid (grB Gr.out hb)
                clear ho hb ZW O
                obtain ⟨A9, c9, hv9⟩ := O3.out.opn
                subst hv9
                go_wp2
                go_ret
                exact ⟨_, .un .dia a, _, _, rfl, .dia hc HR.out, O3.out, B.out, Gr.out⟩
              · have hn60 : Hid ((nx s i bad == some 60) = false) := Lib.hid (by simpa using hc)
                clear hc
                have HK := Lib.hid (sp_take s g i 60 bad _ B.out hi hs)
                rw [hn60.out, if_neg (by decide)] at HK
                go_wp2_with fail
                refine HK.out.mono ?_
                rintro e w5 ⟨rfl, hB, hG⟩
                replace Gr := Lib.hid (grG Gr.out hG)
                replace B := Lib.hid hB
                clear hB hG HK
                by_cases hc : nx s i bad = some 40
                · skip
                  have hm1 := nx_mz hc hm
                  have hi1 := (nx_lt hc).1
                  have HK := Lib.hid (sp_take s g i 40 bad _ B.out hi hs)
                  rw [show (nx s i bad == some 40) = true by simpa using hc, if_pos rfl] at HK
                  go_wp2_with fail
                  refine HK.out.mono ?_
                  rintro e w6 ⟨rfl, hB, hG⟩
                  replace Gr := Lib.hid (grG Gr.out hG)
                  replace B := Lib.hid hB
                  clear hB hG HK
                  have HF := Lib.hid (HQ.out (i + 1) bad hm1 g _ B.out hi1)
                  have ZW : W.heap.size ≤ _ := Gr.out.size
                  go_wp2_with fail
                  refine HF.out.mono ?_
                  rintro e w7 ⟨u, a, j, c, rfl, hR, ho, hB, hG⟩
                  have hL := hR.len1 rfl
                  have hjs := hR.len.2.1 hi1
                  have HR := Lib.hid hR
                  have O := Lib.hid (ho.mono ZW)
                  replace Gr := Lib.hid (grG Gr.out hG)
                  replace B := Lib.hid hB
                  clear hB hG HF ho hR ZW
                  have HK := Lib.hid (sp_need s g j 41 c _ B.out hjs hs)
                  obtain ⟨A9, c9, hv9⟩ := O.out.opn
                  subst hv9
                  go_wp2_with fail
                  refine HK.out.mono ?_
                  rintro e w8 ⟨rfl, hB, hG⟩
                  replace O := Lib.hid (keepG O.out hG ZG.out)
                  replace Gr := Lib.hid (grG Gr.out hG)
                  replace B := Lib.hid hB
                  clear hB hG HK
                  go_wp2
                  go_ret
                  exact ⟨_, a, _, _, rfl, .par hc HR.out, O.out, B.out, Gr.out⟩
                · have hn40 : Hid ((nx s i bad == some 40) = false) := Lib.hid (by simpa using hc)
                  clear hc
                  have HK := Lib.hid (sp_take s g i 40 bad _ B.out hi hs)
                  rw [hn40.out, if_neg (by decide)] at HK
                  go_wp2_with fail
                  refine HK.out.mono ?_
                  rintro e w6 ⟨rfl, hB, hG⟩
                  replace Gr := Lib.hid (grG Gr.out hG)
                  replace B := Lib.hid hB
                  clear hB hG HK
                  have kb := B.out.cell
                  have fb := B.out.frozen
                  have lb := B.out.lt
                  have hb9 := B.out.set_ 2 (.bool true)
                  have hg9 := grown_set Gr.out rfl 2 (.bool true)
                  replace B := Lib.hid hb9
                  replace Gr := Lib.hid hg9
                  clear hb9 hg9
                  go_wp2_with fail
                  clear kb fb lb
                  refine (spec_l02False _).mono ?_
                  rintro e w7 ⟨u, rfl, ho, hb⟩
                  have ZW : W.heap.size ≤ _ := Gr.out.size
                  have O : Hid (Ow cN 75 W.heap.size w7 u (enc .fls)) := Lib.hid (ho.mono ZW)
                  replace B := Lib.hid (B.out.below hb B.out.lt)
                  replace Gr := Lib.hid (grB Gr.out hb)
                  clear ho hb ZW
                  go_wp2
                  go_ret
                  exact ⟨_, .fls, i, true, rfl, .non hnv.out (by have := hn70.out; simpa using this) (by have := hn84.out; simpa using this) (by have := hn126.out; simpa using this) (by have := hn91.out; simpa using this) (by have := hn60.out; simpa using this) (by have := hn40.out; simpa using this), O.out, B.out, Gr.out⟩
/- Contracts of the reader of formulas' texts, of the program: its levels (written by gen02Q.py). -/
set_option maxRecDepth 100000 in
set_option maxHeartbeats 4000000 in
theorem iR_and (s : ByteArray) (hs : s.size ≤ 1000) (n : Nat) (hp : ∀ i bad, mz s i bad ≤ n → RdC 150 168 s .pre i bad) : ∀ i bad, mz s i bad ≤ n → RdC 148 168 s .and i bad := by
  intro i bad hm g W h hi
  have HP := Lib.hid hp
  have HB := Lib.hid h
  have ZG : Hid (g < W.heap.size) := Lib.hid h.lt
  have HF := Lib.hid (hp i bad hm g W h hi)
  clear hp h
  go_enter Tryz.func148, Tryz.ntmps148
  go_wp2_with fail
  refine HF.out.mono ?_
  rintro e w1 ⟨u, a, j, c, rfl, hR, ho, hB, hG⟩
  have hj := hR.len.2.1 hi
  have hij := hR.len.1
  have hL : (enc a).length ≤ 1 + 3 * j := by have := hR.len1 rfl; omega
  have hmj : mz s j c ≤ n := Nat.le_trans hR.mz hm
  have HT : ∀ o k d, Rdf s .andT a j c o k d → Rdf s .and .fls i bad o k d := fun o k d t => .and hR t
  have O := Lib.hid ho
  have B := Lib.hid hB
  have G := Lib.hid hG
  replace HT := Lib.hid HT
  clear ho hB hG hR HF HB
  go_wp2
  go_loopw [3] (fun u wr => ∃ (a : Fm) (j : Nat) (c : Bool), j ≤ s.size ∧ (enc a).length ≤ 1 + 3 * j ∧ mz s j c ≤ n ∧ (∀ o k d, Rdf s .andT a j c o k d → Rdf s .and .fls i bad o k d) ∧ Ow cN 75 W.heap.size wr u (enc a) ∧ Blk wr g 168 #[.string s, .int .i64 (j : Int), .bool c] ∧ W.grownBy wr (some g)) (fun _ wr => s.size - posN (wr.cell? ⟨g, 1, none⟩))
  case atStart => exact ⟨a, j, c, hj, hL, hmj, HT.out, O.out, B.out, G.out⟩
  case round =>
    clear hj hL hmj HT O B G hij hm
    obtain ⟨a, j, c, hj, hL, hmj, HT, O, B, G⟩ := hrel
    replace HT := Lib.hid HT
    replace O := Lib.hid O
    replace B := Lib.hid B
    replace G := Lib.hid G
    have HK := Lib.hid (im_take s g j 38 c wr B.out hj hs)
    by_cases hc : nx s j c = some 38
    · have hn : (nx s j c == some 38) = true := by simpa using hc
      rw [hn, if_pos rfl] at HK
      have hm1 := nx_mz hc hmj
      have hj1 := (nx_lt hc).1
      have HTC := Lib.hid (fun b k d hb o k' d' t => HT.out o k' d' (.andC hc (b := b) (j := k) (c := d) hb t))
      have hpos : posN (wr.cell? ⟨g, 1, none⟩) = j := by rw [B.out.cell 1]; simp [posN]
      have HPOS := Lib.hid hpos
      clear hc hn HT hpos
      go_wp2_with fail
      refine HK.out.mono ?_
      rintro e w2 ⟨rfl, hB, hG⟩
      replace O := Lib.hid (keepG O.out hG ZG.out)
      replace G := Lib.hid (grG G.out hG)
      have HF := Lib.hid (HP.out (j + 1) c (by omega) g w2 hB hj1)
      clear hB hG HK B
      go_wp2_with fail
      refine HF.out.mono ?_
      rintro e w3 ⟨u2, b, k, d, rfl, hR, ho, hB, hG⟩
      have hk := hR.len.2.1 hj1
      have hjk := hR.len.1
      have hLb := hR.len1 rfl
      have hmk : mz s k d ≤ n := by have := hR.mz; omega
      have hT2 := HTC.out b k d hR
      replace O := Lib.hid (keepG O.out hG ZG.out)
      have ZW : W.heap.size ≤ w2.heap.size := G.out.size
      replace G := Lib.hid (grG G.out hG)
      have O2 := Lib.hid (ho.mono ZW)
      have B := Lib.hid hB
      have HT := Lib.hid hT2
      clear ho hB hG hR HF HTC hT2
      have hl1 : (enc a).length ≤ 4000 := by omega
      have hl2 : (enc b).length ≤ 4000 := by omega
      go_wp2_with fail
      refine (impl_join 2 _ _ (enc a) (enc b) _ O.out.sl O2.out.sl (by have := hl1; omega) (by have := hl2; omega)).mono ?_
      rintro e w4 ⟨r, rfl, ho, hb⟩
      have ZW3 : W.heap.size ≤ w3.heap.size := G.out.size
      have O3 : Hid (Ow cN 75 W.heap.size w4 r (enc (.bin .and a b))) := Lib.hid (by have := ho.mono ZW3; simpa [enc, BK.i] using this)
      have hL3 : (enc (.bin .and a b)).length ≤ 1 + 3 * k := by simp only [enc, List.length_cons, List.length_append]; omega
      replace B := Lib.hid (B.out.below hb B.out.lt)
      replace G := Lib.hid (grB G.out hb)
      have HL3 := Lib.hid hL3
      clear ho hb O O2 hL3 ZW3 ZW
      have hlt : s.size - posN (w4.cell? ⟨g, 1, none⟩) < s.size - posN (wr.cell? ⟨g, 1, none⟩) := by
        rw [HPOS.out, B.out.cell 1]
        simp [posN]
        omega
      have HLT := Lib.hid hlt
      obtain ⟨A9, c9, hv9⟩ := O3.out.opn
      subst hv9
      clear hlt HPOS
      go_wp2
      exact ⟨⟨.bin .and a b, k, d, hk, HL3.out, hmk, HT.out, O3.out, B.out, G.out⟩, HLT.out⟩
    · have hn : (nx s j c == some 38) = false := by simpa using hc
      rw [hn, if_neg (by decide)] at HK
      have HR := Lib.hid (HT.out _ _ _ (.andS hc))
      clear hc hn HT
      obtain ⟨A9, c9, hv9⟩ := O.out.opn
      subst hv9
      go_wp2_with fail
      refine HK.out.mono ?_
      rintro e w2 ⟨rfl, hB, hG⟩
      replace O := Lib.hid (keepG O.out hG ZG.out)
      replace G := Lib.hid (grG G.out hG)
      replace B := Lib.hid hB
      clear hB hG HK
      go_wp2
      go_ret
      exact ⟨_, a, j, c, rfl, HR.out, O.out, B.out, G.out⟩
set_option maxRecDepth 100000 in
set_option maxHeartbeats 4000000 in
theorem iR_or (s : ByteArray) (hs : s.size ≤ 1000) (n : Nat) (hp : ∀ i bad, mz s i bad ≤ n → RdC 148 168 s .and i bad) : ∀ i bad, mz s i bad ≤ n → RdC 145 168 s .or i bad := by
  intro i bad hm g W h hi
  have HP := Lib.hid hp
  have HB := Lib.hid h
  have ZG : Hid (g < W.heap.size) := Lib.hid h.lt
  have HF := Lib.hid (hp i bad hm g W h hi)
  clear hp h
  go_enter Tryz.func145, Tryz.ntmps145
  go_wp2_with fail
  refine HF.out.mono ?_
  rintro e w1 ⟨u, a, j, c, rfl, hR, ho, hB, hG⟩
  have hj := hR.len.2.1 hi
  have hij := hR.len.1
  have hL : (enc a).length ≤ 1 + 3 * j := by have := hR.len1 rfl; omega
  have hmj : mz s j c ≤ n := Nat.le_trans hR.mz hm
  have HT : ∀ o k d, Rdf s .orT a j c o k d → Rdf s .or .fls i bad o k d := fun o k d t => .or hR t
  have O := Lib.hid ho
  have B := Lib.hid hB
  have G := Lib.hid hG
  replace HT := Lib.hid HT
  clear ho hB hG hR HF HB
  go_wp2
  go_loopw [3] (fun u wr => ∃ (a : Fm) (j : Nat) (c : Bool), j ≤ s.size ∧ (enc a).length ≤ 1 + 3 * j ∧ mz s j c ≤ n ∧ (∀ o k d, Rdf s .orT a j c o k d → Rdf s .or .fls i bad o k d) ∧ Ow cN 75 W.heap.size wr u (enc a) ∧ Blk wr g 168 #[.string s, .int .i64 (j : Int), .bool c] ∧ W.grownBy wr (some g)) (fun _ wr => s.size - posN (wr.cell? ⟨g, 1, none⟩))
  case atStart => exact ⟨a, j, c, hj, hL, hmj, HT.out, O.out, B.out, G.out⟩
  case round =>
    clear hj hL hmj HT O B G hij hm
    obtain ⟨a, j, c, hj, hL, hmj, HT, O, B, G⟩ := hrel
    replace HT := Lib.hid HT
    replace O := Lib.hid O
    replace B := Lib.hid B
    replace G := Lib.hid G
    have HK := Lib.hid (im_take s g j 124 c wr B.out hj hs)
    by_cases hc : nx s j c = some 124
    · have hn : (nx s j c == some 124) = true := by simpa using hc
      rw [hn, if_pos rfl] at HK
      have hm1 := nx_mz hc hmj
      have hj1 := (nx_lt hc).1
      have HTC := Lib.hid (fun b k d hb o k' d' t => HT.out o k' d' (.orC hc (b := b) (j := k) (c := d) hb t))
      have hpos : posN (wr.cell? ⟨g, 1, none⟩) = j := by rw [B.out.cell 1]; simp [posN]
      have HPOS := Lib.hid hpos
      clear hc hn HT hpos
      go_wp2_with fail
      refine HK.out.mono ?_
      rintro e w2 ⟨rfl, hB, hG⟩
      replace O := Lib.hid (keepG O.out hG ZG.out)
      replace G := Lib.hid (grG G.out hG)
      have HF := Lib.hid (HP.out (j + 1) c (by omega) g w2 hB hj1)
      clear hB hG HK B
      go_wp2_with fail
      refine HF.out.mono ?_
      rintro e w3 ⟨u2, b, k, d, rfl, hR, ho, hB, hG⟩
      have hk := hR.len.2.1 hj1
      have hjk := hR.len.1
      have hLb := hR.len1 rfl
      have hmk : mz s k d ≤ n := by have := hR.mz; omega
      have hT2 := HTC.out b k d hR
      replace O := Lib.hid (keepG O.out hG ZG.out)
      have ZW : W.heap.size ≤ w2.heap.size := G.out.size
      replace G := Lib.hid (grG G.out hG)
      have O2 := Lib.hid (ho.mono ZW)
      have B := Lib.hid hB
      have HT := Lib.hid hT2
      clear ho hB hG hR HF HTC hT2
      have hl1 : (enc a).length ≤ 4000 := by omega
      have hl2 : (enc b).length ≤ 4000 := by omega
      go_wp2_with fail
      refine (impl_join 3 _ _ (enc a) (enc b) _ O.out.sl O2.out.sl (by have := hl1; omega) (by have := hl2; omega)).mono ?_
      rintro e w4 ⟨r, rfl, ho, hb⟩
      have ZW3 : W.heap.size ≤ w3.heap.size := G.out.size
      have O3 : Hid (Ow cN 75 W.heap.size w4 r (enc (.bin .or a b))) := Lib.hid (by have := ho.mono ZW3; simpa [enc, BK.i] using this)
      have hL3 : (enc (.bin .or a b)).length ≤ 1 + 3 * k := by simp only [enc, List.length_cons, List.length_append]; omega
      replace B := Lib.hid (B.out.below hb B.out.lt)
      replace G := Lib.hid (grB G.out hb)
      have HL3 := Lib.hid hL3
      clear ho hb O O2 hL3 ZW3 ZW
      have hlt : s.size - posN (w4.cell? ⟨g, 1, none⟩) < s.size - posN (wr.cell? ⟨g, 1, none⟩) := by
        rw [HPOS.out, B.out.cell 1]
        simp [posN]
        omega
      have HLT := Lib.hid hlt
      obtain ⟨A9, c9, hv9⟩ := O3.out.opn
      subst hv9
      clear hlt HPOS
      go_wp2
      exact ⟨⟨.bin .or a b, k, d, hk, HL3.out, hmk, HT.out, O3.out, B.out, G.out⟩, HLT.out⟩
    · have hn : (nx s j c == some 124) = false := by simpa using hc
      rw [hn, if_neg (by decide)] at HK
      have HR := Lib.hid (HT.out _ _ _ (.orS hc))
      clear hc hn HT
      obtain ⟨A9, c9, hv9⟩ := O.out.opn
      subst hv9
      go_wp2_with fail
      refine HK.out.mono ?_
      rintro e w2 ⟨rfl, hB, hG⟩
      replace O := Lib.hid (keepG O.out hG ZG.out)
      replace G := Lib.hid (grG G.out hG)
      replace B := Lib.hid hB
      clear hB hG HK
      go_wp2
      go_ret
      exact ⟨_, a, j, c, rfl, HR.out, O.out, B.out, G.out⟩
set_option maxRecDepth 100000 in
set_option maxHeartbeats 4000000 in
theorem iR_imp (s : ByteArray) (hs : s.size ≤ 1000) (n : Nat) (hp : ∀ i bad, mz s i bad ≤ n → RdC 145 168 s .or i bad) (hq : ∀ i bad, mz s i bad < n → RdC 140 168 s .imp i bad) : ∀ i bad, mz s i bad ≤ n → RdC 140 168 s .imp i bad := by
  intro i bad hm g W h hi
  have HQ := Lib.hid hq
  have ZG : Hid (g < W.heap.size) := Lib.hid h.lt
  have HF := Lib.hid (hp i bad hm g W h hi)
  clear hp hq h
  go_enter Tryz.func140, Tryz.ntmps140
  go_wp2_with fail
  refine HF.out.mono ?_
  rintro e w1 ⟨u, a, j, c, rfl, hR, ho, hB, hG⟩
  have hj := hR.len.2.1 hi
  have hij := hR.len.1
  have hL := hR.len1 rfl
  have hmj : mz s j c ≤ n := Nat.le_trans hR.mz hm
  have HR := Lib.hid hR
  have O := Lib.hid ho
  have G := Lib.hid hG
  have HK := Lib.hid (im_take s g j 62 c w1 hB hj hs)
  clear ho hB hG hR HF
  by_cases hc : nx s j c = some 62
  · have hn : (nx s j c == some 62) = true := by simpa using hc
    rw [hn, if_pos rfl] at HK
    have hm1 := nx_mz hc hmj
    have hj1 := (nx_lt hc).1
    have HRC := Lib.hid (fun b k d hb => Rdf.impC (x := .fls) HR.out hc (b := b) (k := k) (d := d) hb)
    clear hc hn
    go_wp2_with fail
    refine HK.out.mono ?_
    rintro e w2 ⟨rfl, hB, hG⟩
    replace O := Lib.hid (keepG O.out hG ZG.out)
    replace G := Lib.hid (grG G.out hG)
    have HF := Lib.hid (HQ.out (j + 1) c hm1 g w2 hB hj1)
    clear hB hG HK
    go_wp2_with fail
    refine HF.out.mono ?_
    rintro e w3 ⟨u2, b, k, d, rfl, hR, ho, hB, hG⟩
    have hk := hR.len.2.1 hj1
    have hjk := hR.len.1
    have hLb := hR.len1 rfl
    have hT2 := HRC.out b k d hR
    replace O := Lib.hid (keepG O.out hG ZG.out)
    have ZW : W.heap.size ≤ w2.heap.size := G.out.size
    replace G := Lib.hid (grG G.out hG)
    have O2 := Lib.hid (ho.mono ZW)
    have B := Lib.hid hB
    have HT := Lib.hid hT2
    clear ho hB hG hR HF HRC hT2 HR
    have hl1 : (enc a).length ≤ 4000 := by omega
    have hl2 : (enc b).length ≤ 4000 := by omega
    go_wp2_with fail
    refine (impl_join 4 _ _ (enc a) (enc b) _ O.out.sl O2.out.sl (by have := hl1; omega) (by have := hl2; omega)).mono ?_
    rintro e w4 ⟨r, rfl, ho, hb⟩
    have ZW3 : W.heap.size ≤ w3.heap.size := G.out.size
    have O3 : Hid (Ow cN 75 W.heap.size w4 r (enc (.bin .imp a b))) := Lib.hid (by have := ho.mono ZW3; simpa [enc, BK.i] using this)
    replace B := Lib.hid (B.out.below hb B.out.lt)
    replace G := Lib.hid (grB G.out hb)
    clear ho hb O O2 ZW3 ZW
    obtain ⟨A9, c9, hv9⟩ := O3.out.opn
    subst hv9
    go_wp2
    go_ret
    exact ⟨_, .bin .imp a b, k, d, rfl, HT.out, O3.out, B.out, G.out⟩
  · have hn : (nx s j c == some 62) = false := by simpa using hc
    rw [hn, if_neg (by decide)] at HK
    replace HR := Lib.hid (Rdf.impS (x := .fls) HR.out hc)
    clear hc hn
    obtain ⟨A9, c9, hv9⟩ := O.out.opn
    subst hv9
    go_wp2_with fail
    refine HK.out.mono ?_
    rintro e w2 ⟨rfl, hB, hG⟩
    replace O := Lib.hid (keepG O.out hG ZG.out)
    replace G := Lib.hid (grG G.out hG)
    have B := Lib.hid hB
    clear hB hG HK
    go_wp2
    go_ret
    exact ⟨_, a, j, c, rfl, HR.out, O.out, B.out, G.out⟩
theorem impl_prefixR (k : Int) (u : Value) (ys : List Nd) (w : World) (h' : Sl cN w u ys) (hl' : ys.length ≤ 262144) :
    Calls Tryz.prog 87 #[.int .i64 k, u] w fun e w' => ∃ r, e = .returned r ∧ Ow cN 75 w.heap.size w' r ((k, 0) :: ys) ∧ Below w.heap.size w w' := by
  obtain ⟨B, d, rfl⟩ := h'.opn
  have hs := Sl2.two' ((Ow.lit (K := cN) (e := 75) (B := w.heap.size) [(k, 0)] (cs := #[.int .i64 k, .int .i64 0]) (n := 1) rfl rfl (Nat.le_refl _)).sl) (h'.alloc (.cells #[.int .i64 k, .int .i64 0] 75)) 44 (w.heap.size + 1) (by simp)
  have H := Lib.hid (slices_Concat_nodes _ _ _ hs (by simp) (by simp <;> omega))
  clear h' hs
  go_enter Tryz.func87, Tryz.ntmps87
  go_wp2_with fail
  refine H.out.mono ?_
  rintro e w1 ⟨r, rfl, ho, hb⟩
  have HB : Hid (Below w.heap.size w w1) := Lib.hid ((((Below.refl _ _).alloc (Nat.le_refl _) _).alloc (by simp) _).trans (hb.mono (by simp <;> omega)))
  have O : Hid (Ow cN 75 w.heap.size w1 r ((k, 0) :: ys)) := Lib.hid (by have := ho.mono (B' := w.heap.size) (by simp <;> omega); simpa using this)
  clear ho hb
  go_wp2
  go_ret
  exact ⟨_, rfl, O.out, HB.out⟩
def letT : ByteArray := ⟨#[112, 113, 114, 115, 116, 117]⟩
def posI : Option Obj → Nat
  | some (.stringIter _ p) => p
  | _ => 0
theorem blk_iter {w : World} {b k : Nat} {t : TypeId} {cs : Array Value} (h : Blk w b t cs) (hk : b ≠ k) (s : ByteArray) (p : Nat) : Blk (w.iterAt k s p) b t cs := (Lib.iterAt_other w k b s p hk).trans h
theorem gr_iter {W w : World} {k : Nat} {row : Option Nat} (h : W.grownBy w row) (hk : W.heap.size ≤ k) (s : ByteArray) (p : Nat) : W.grownBy (w.iterAt k s p) row :=
  ⟨h.os, h.tape, h.output, by rw [Lib.iterAt_size]; exact h.size, fun i hi hne => (Lib.iterAt_other w k i s p (by omega)).trans (h.block i hi hne)⟩
theorem impl_variableR (v : Int) (w : World) :
    Calls Tryz.prog 124 #[.int .i64 v] w fun e w' => ∃ u, e = .returned u ∧ Ow cN 75 w.heap.size w' u [(0, v)] ∧ Below w.heap.size w w' := by
  have ho := Ow.lit (w := w) (K := cN) (e := 75) (B := w.heap.size) [(0, v)] (cs := #[.int .i64 0, .int .i64 v]) (n := 1) rfl rfl (Nat.le_refl _)
  have hb := (Below.refl w.heap.size w).alloc (Nat.le_refl _) (.cells #[.int .i64 0, .int .i64 v] 75)
  have O := Lib.hid ho
  have B := Lib.hid hb
  clear ho hb
  go_enter Tryz.func124, Tryz.ntmps124
  go_wp2
  go_ret
  exact ⟨_, rfl, O.out, B.out⟩
set_option maxRecDepth 100000 in
set_option maxHeartbeats 4000000 in
theorem iR_atom (s : ByteArray) (hs : s.size ≤ 1000) (n : Nat) (hp : ∀ i bad, mz s i bad < n → RdC 150 168 s .pre i bad) (hq : ∀ i bad, mz s i bad < n → RdC 140 168 s .imp i bad) : ∀ i bad, mz s i bad ≤ n → nx s i bad ≠ some 126 → nx s i bad ≠ some 91 → nx s i bad ≠ some 60 → RdC 154 168 s .pre i bad := by
  intro i bad hm x126 x91 x60 g W h hi
  have HP := Lib.hid hp
  have HQ := Lib.hid hq
  have B := Lib.hid h
  have ZG : Hid (g < W.heap.size) := Lib.hid h.lt
  have Gr := Lib.hid (World.grownBy.refl W (some g))
  clear hp hq h
  go_enter Tryz.func154, Tryz.ntmps154
  have hn126 : Hid ((nx s i bad == some 126) = false) := Lib.hid (by simpa using x126)
  have hn91 : Hid ((nx s i bad == some 91) = false) := Lib.hid (by simpa using x91)
  have hn60 : Hid ((nx s i bad == some 60) = false) := Lib.hid (by simpa using x60)
  clear x126 x91 x60
  by_cases hc : nx s i bad = some 70
  · skip
    have HK := Lib.hid (im_take s g i 70 bad _ B.out hi hs)
    rw [show (nx s i bad == some 70) = true by simpa using hc, if_pos rfl] at HK
    go_wp2_with fail
    refine HK.out.mono ?_
    rintro e w1 ⟨rfl, hB, hG⟩
    replace Gr := Lib.hid (grG Gr.out hG)
    replace B := Lib.hid hB
    clear hB hG HK
    go_wp2_with fail
    refine (impl_falsum _).mono ?_
    rintro e w2 ⟨u, rfl, ho, hb⟩
    have ZW : W.heap.size ≤ _ := Gr.out.size
    have O : Hid (Ow cN 75 W.heap.size w2 u (enc (.fls))) := Lib.hid (ho.mono ZW)
    replace B := Lib.hid (B.out.below hb B.out.lt)
    replace Gr := Lib.hid (grB Gr.out hb)
    clear ho hb ZW
    go_wp2
    go_ret
    exact ⟨_, .fls, _, _, rfl, .fls hc, O.out, B.out, Gr.out⟩
  · have hn70 : Hid ((nx s i bad == some 70) = false) := Lib.hid (by simpa using hc)
    clear hc
    have HK := Lib.hid (im_take s g i 70 bad _ B.out hi hs)
    rw [hn70.out, if_neg (by decide)] at HK
    go_wp2_with fail
    refine HK.out.mono ?_
    rintro e w1 ⟨rfl, hB, hG⟩
    replace Gr := Lib.hid (grG Gr.out hG)
    replace B := Lib.hid hB
    clear hB hG HK
    by_cases hc : nx s i bad = some 84
    · skip
      have HK := Lib.hid (im_take s g i 84 bad _ B.out hi hs)
      rw [show (nx s i bad == some 84) = true by simpa using hc, if_pos rfl] at HK
      go_wp2_with fail
      refine HK.out.mono ?_
      rintro e w2 ⟨rfl, hB, hG⟩
      replace Gr := Lib.hid (grG Gr.out hG)
      replace B := Lib.hid hB
      clear hB hG HK
      go_wp2_with fail
      refine (impl_truth _).mono ?_
      rintro e w3 ⟨u, rfl, ho, hb⟩
      have ZW : W.heap.size ≤ _ := Gr.out.size
      have O : Hid (Ow cN 75 W.heap.size w3 u (enc (.bin .imp .fls .fls))) := Lib.hid (ho.mono ZW)
      replace B := Lib.hid (B.out.below hb B.out.lt)
      replace Gr := Lib.hid (grB Gr.out hb)
      clear ho hb ZW
      go_wp2
      go_ret
      exact ⟨_, .bin .imp .fls .fls, _, _, rfl, .tru hc, O.out, B.out, Gr.out⟩
    · have hn84 : Hid ((nx s i bad == some 84) = false) := Lib.hid (by simpa using hc)
      clear hc
      have HK := Lib.hid (im_take s g i 84 bad _ B.out hi hs)
      rw [hn84.out, if_neg (by decide)] at HK
      go_wp2_with fail
      refine HK.out.mono ?_
      rintro e w2 ⟨rfl, hB, hG⟩
      replace Gr := Lib.hid (grG Gr.out hG)
      replace B := Lib.hid hB
      clear hB hG HK
      by_cases hc : nx s i bad = some 40
      · skip
        have hm1 := nx_mz hc hm
        have hi1 := (nx_lt hc).1
        have HK := Lib.hid (im_take s g i 40 bad _ B.out hi hs)
        rw [show (nx s i bad == some 40) = true by simpa using hc, if_pos rfl] at HK
        go_wp2_with fail
        refine HK.out.mono ?_
        rintro e w3 ⟨rfl, hB, hG⟩
        replace Gr := Lib.hid (grG Gr.out hG)
        replace B := Lib.hid hB
        clear hB hG HK
        have HF := Lib.hid (HQ.out (i + 1) bad hm1 g _ B.out hi1)
        have ZW : W.heap.size ≤ _ := Gr.out.size
        go_wp2_with fail
        refine HF.out.mono ?_
        rintro e w4 ⟨u, a, j, c, rfl, hR, ho, hB, hG⟩
        have hL := hR.len1 rfl
        have hjs := hR.len.2.1 hi1
        have HR := Lib.hid hR
        have O := Lib.hid (ho.mono ZW)
        replace Gr := Lib.hid (grG Gr.out hG)
        replace B := Lib.hid hB
        clear hB hG HF ho hR ZW
        have HK := Lib.hid (im_need s g j 41 c _ B.out hjs hs)
        obtain ⟨A9, c9, hv9⟩ := O.out.opn
        subst hv9
        go_wp2_with fail
        refine HK.out.mono ?_
        rintro e w5 ⟨rfl, hB, hG⟩
        replace O := Lib.hid (keepG O.out hG ZG.out)
        replace Gr := Lib.hid (grG Gr.out hG)
        replace B := Lib.hid hB
        clear hB hG HK
        go_wp2
        go_ret
        exact ⟨_, a, _, _, rfl, .par hc HR.out, O.out, B.out, Gr.out⟩
      · have hn40 : Hid ((nx s i bad == some 40) = false) := Lib.hid (by simpa using hc)
        clear hc
        have HK := Lib.hid (im_take s g i 40 bad _ B.out hi hs)
        rw [hn40.out, if_neg (by decide)] at HK
        go_wp2_with fail
        refine HK.out.mono ?_
        rintro e w3 ⟨rfl, hB, hG⟩
        replace Gr := Lib.hid (grG Gr.out hG)
        replace B := Lib.hid hB
        clear hB hG HK
        have hki : (World.iter w3 letT 0).heap[w3.heap.size]? = some (.stringIter letT 0) := World.iter_heap _ _ _
        have hb := (Below.refl w3.heap.size w3).alloc (Nat.le_refl _) (.stringIter letT 0)
        have ZI : Hid (W.heap.size ≤ w3.heap.size) := Lib.hid Gr.out.size
        replace B := Lib.hid (B.out.below hb B.out.lt)
        replace Gr := Lib.hid (grB Gr.out hb)
        clear hb
        go_upto_region 10 with fail
        obtain ⟨ki, hkk⟩ : ∃ b, w3.heap.size = b := ⟨_, rfl⟩
        have HKI := Lib.hid hki
        clear hki
        rw [hkk] at HKI ZI ⊢
        rw [show World.alloc w3 (.stringIter letT 0) = World.iter w3 letT 0 from rfl] at B Gr
        rw [show (⟨#[112, 113, 114, 115, 116, 117]⟩ : ByteArray) = letT from rfl]
        generalize World.iter w3 letT 0 = WI at *
        clear hkk
        go_loopw [4] (fun x wr => ∃ v : Nat, v ≤ 6 ∧ wr.heap[ki]? = some (.stringIter letT v) ∧ (∀ u, u < v → nx s i bad ≠ some (112 + u)) ∧ Blk wr g 168 #[.string s, .int .i64 (i : Int), .bool bad] ∧ W.grownBy wr (some g)) (fun _ wr => 6 - posI wr.heap[ki]?)
        case atStart => exact ⟨0, by omega, HKI.out, fun u h => by omega, B.out, Gr.out⟩
        case round =>
          clear B Gr HKI
          obtain ⟨v, hv, hki, hnv, B, Gr⟩ := hrel
          replace B := Lib.hid B
          replace Gr := Lib.hid Gr
          replace hnv := Lib.hid hnv
          by_cases hv6 : v < 6
          · skip
            have hpos : posI wr.heap[ki]? = v := by rw [hki]; rfl
            have HPOS := Lib.hid hpos
            clear hpos
            have h6 : v = 0 ∨ v = 1 ∨ v = 2 ∨ v = 3 ∨ v = 4 ∨ v = 5 := by omega
            clear hv hv6
            rcases h6 with rfl | rfl | rfl | rfl | rfl | rfl
            · have hnx : ∀ ty, (Instr.next (.pointer (some ⟨ki, 0, none⟩)) true ty).run Tryz.prog wr = .ok (.tuple #[.bool true, .int .i64 0, .int .i32 112]) (wr.iterAt ki letT 1) := fun ty => Lib.run_next_ascii_at wr ki letT 0 ty hki (by decide) (by decide)
              have HKI := Lib.hid (Lib.iterAt_heap wr ki letT 0 1 hki)
              have NK : Hid (ki ≠ g) := Lib.hid (by have := ZG.out; have := ZI.out; omega)
              replace B := Lib.hid (blk_iter B.out NK.out.symm letT 1)
              replace Gr := Lib.hid (gr_iter Gr.out ZI.out letT 1)
              go_upto_region 12 with fail
              clear hnx hki
              generalize World.iterAt wr ki letT 1 = wi at *
              by_cases hc : nx s i bad = some 112
              · skip
                have HK := Lib.hid (im_take s g i 112 bad _ B.out hi hs)
                rw [show (nx s i bad == some 112) = true by simpa using hc, if_pos rfl] at HK
                go_wp2_with fail
                refine HK.out.mono ?_
                rintro e w4 ⟨rfl, hB, hG⟩
                replace Gr := Lib.hid (grG Gr.out hG)
                replace B := Lib.hid hB
                clear hB hG HK
                go_wp2_with fail
                refine (impl_variableR 0 _).mono ?_
                rintro e w5 ⟨u, rfl, ho, hb⟩
                have ZW : W.heap.size ≤ _ := Gr.out.size
                have O : Hid (Ow cN 75 W.heap.size w5 u (enc (.var 0))) := Lib.hid (ho.mono ZW)
                replace B := Lib.hid (B.out.below hb B.out.lt)
                replace Gr := Lib.hid (grB Gr.out hb)
                clear ho hb ZW
                go_wp2
                go_ret
                exact ⟨_, .var 0, _, _, rfl, .var hc (by decide), O.out, B.out, Gr.out⟩
              · have hn112 : Hid ((nx s i bad == some 112) = false) := Lib.hid (by simpa using hc)
                have HNV : Hid (∀ u, u < 0 + 1 → nx s i bad ≠ some (112 + u)) := Lib.hid (fun u hu => by rcases Nat.lt_or_ge u 0 with h | h; exact hnv.out u h; obtain rfl : u = 0 := (by omega); exact hc)
                clear hc
                have HK := Lib.hid (im_take s g i 112 bad _ B.out hi hs)
                rw [hn112.out, if_neg (by decide)] at HK
                go_wp2_with fail
                refine HK.out.mono ?_
                rintro e w4 ⟨rfl, hB, hG⟩
                replace HKI := Lib.hid ((hG.block ki (Array.getElem?_eq_some_iff.1 HKI.out).1 (fun e => NK.out (Option.some.inj e))).trans HKI.out)
                replace Gr := Lib.hid (grG Gr.out hG)
                replace B := Lib.hid hB
                clear hB hG HK
                have HLT : Hid (6 - posI w4.heap[ki]? < 6 - posI wr.heap[ki]?) := Lib.hid (by rw [HPOS.out, HKI.out]; decide)
                go_wp2
                exact ⟨⟨0 + 1, by omega, HKI.out, HNV.out, B.out, Gr.out⟩, HLT.out⟩
            · have hnx : ∀ ty, (Instr.next (.pointer (some ⟨ki, 0, none⟩)) true ty).run Tryz.prog wr = .ok (.tuple #[.bool true, .int .i64 1, .int .i32 113]) (wr.iterAt ki letT 2) := fun ty => Lib.run_next_ascii_at wr ki letT 1 ty hki (by decide) (by decide)
              have HKI := Lib.hid (Lib.iterAt_heap wr ki letT 1 2 hki)
              have NK : Hid (ki ≠ g) := Lib.hid (by have := ZG.out; have := ZI.out; omega)
              replace B := Lib.hid (blk_iter B.out NK.out.symm letT 2)
              replace Gr := Lib.hid (gr_iter Gr.out ZI.out letT 2)
              go_upto_region 12 with fail
              clear hnx hki
              generalize World.iterAt wr ki letT 2 = wi at *
              by_cases hc : nx s i bad = some 113
              · skip
                have HK := Lib.hid (im_take s g i 113 bad _ B.out hi hs)
                rw [show (nx s i bad == some 113) = true by simpa using hc, if_pos rfl] at HK
                go_wp2_with fail
                refine HK.out.mono ?_
                rintro e w4 ⟨rfl, hB, hG⟩
                replace Gr := Lib.hid (grG Gr.out hG)
                replace B := Lib.hid hB
                clear hB hG HK
                go_wp2_with fail
                refine (impl_variableR 1 _).mono ?_
                rintro e w5 ⟨u, rfl, ho, hb⟩
                have ZW : W.heap.size ≤ _ := Gr.out.size
                have O : Hid (Ow cN 75 W.heap.size w5 u (enc (.var 1))) := Lib.hid (ho.mono ZW)
                replace B := Lib.hid (B.out.below hb B.out.lt)
                replace Gr := Lib.hid (grB Gr.out hb)
                clear ho hb ZW
                go_wp2
                go_ret
                exact ⟨_, .var 1, _, _, rfl, .var hc (by decide), O.out, B.out, Gr.out⟩
              · have hn113 : Hid ((nx s i bad == some 113) = false) := Lib.hid (by simpa using hc)
                have HNV : Hid (∀ u, u < 1 + 1 → nx s i bad ≠ some (112 + u)) := Lib.hid (fun u hu => by rcases Nat.lt_or_ge u 1 with h | h; exact hnv.out u h; obtain rfl : u = 1 := (by omega); exact hc)
                clear hc
                have HK := Lib.hid (im_take s g i 113 bad _ B.out hi hs)
                rw [hn113.out, if_neg (by decide)] at HK
                go_wp2_with fail
                refine HK.out.mono ?_
                rintro e w4 ⟨rfl, hB, hG⟩
                replace HKI := Lib.hid ((hG.block ki (Array.getElem?_eq_some_iff.1 HKI.out).1 (fun e => NK.out (Option.some.inj e))).trans HKI.out)
                replace Gr := Lib.hid (grG Gr.out hG)
                replace B := Lib.hid hB
                clear hB hG HK
                have HLT : Hid (6 - posI w4.heap[ki]? < 6 - posI wr.heap[ki]?) := Lib.hid (by rw [HPOS.out, HKI.out]; decide)
                go_wp2
                exact ⟨⟨1 + 1, by omega, HKI.out, HNV.out, B.out, Gr.out⟩, HLT.out⟩
            · have hnx : ∀ ty, (Instr.next (.pointer (some ⟨ki, 0, none⟩)) true ty).run Tryz.prog wr = .ok (.tuple #[.bool true, .int .i64 2, .int .i32 114]) (wr.iterAt ki letT 3) := fun ty => Lib.run_next_ascii_at wr ki letT 2 ty hki (by decide) (by decide)
              have HKI := Lib.hid (Lib.iterAt_heap wr ki letT 2 3 hki)
              have NK : Hid (ki ≠ g) := Lib.hid (by have := ZG.out; have := ZI.out; omega)
              replace B := Lib.hid (blk_iter B.out NK.out.symm letT 3)
              replace Gr := Lib.hid (gr_iter Gr.out ZI.out letT 3)
              go_upto_region 12 with fail
              clear hnx hki
              generalize World.iterAt wr ki letT 3 = wi at *
              by_cases hc : nx s i bad = some 114
              · skip
                have HK := Lib.hid (im_take s g i 114 bad _ B.out hi hs)
                rw [show (nx s i bad == some 114) = true by simpa using hc, if_pos rfl] at HK
                go_wp2_with fail
                refine HK.out.mono ?_
                rintro e w4 ⟨rfl, hB, hG⟩
                replace Gr := Lib.hid (grG Gr.out hG)
                replace B := Lib.hid hB
                clear hB hG HK
                go_wp2_with fail
                refine (impl_variableR 2 _).mono ?_
                rintro e w5 ⟨u, rfl, ho, hb⟩
                have ZW : W.heap.size ≤ _ := Gr.out.size
                have O : Hid (Ow cN 75 W.heap.size w5 u (enc (.var 2))) := Lib.hid (ho.mono ZW)
                replace B := Lib.hid (B.out.below hb B.out.lt)
                replace Gr := Lib.hid (grB Gr.out hb)
                clear ho hb ZW
                go_wp2
                go_ret
                exact ⟨_, .var 2, _, _, rfl, .var hc (by decide), O.out, B.out, Gr.out⟩
              · have hn114 : Hid ((nx s i bad == some 114) = false) := Lib.hid (by simpa using hc)
                have HNV : Hid (∀ u, u < 2 + 1 → nx s i bad ≠ some (112 + u)) := Lib.hid (fun u hu => by rcases Nat.lt_or_ge u 2 with h | h; exact hnv.out u h; obtain rfl : u = 2 := (by omega); exact hc)
                clear hc
                have HK := Lib.hid (im_take s g i 114 bad _ B.out hi hs)
                rw [hn114.out, if_neg (by decide)] at HK
                go_wp2_with fail
                refine HK.out.mono ?_
                rintro e w4 ⟨rfl, hB, hG⟩
                replace HKI := Lib.hid ((hG.block ki (Array.getElem?_eq_some_iff.1 HKI.out).1 (fun e => NK.out (Option.some.inj e))).trans HKI.out)
                replace Gr := Lib.hid (grG Gr.out hG)
                replace B := Lib.hid hB
                clear hB hG HK
                have HLT : Hid (6 - posI w4.heap[ki]? < 6 - posI wr.heap[ki]?) := Lib.hid (by rw [HPOS.out, HKI.out]; decide)
                go_wp2
                exact ⟨⟨2 + 1, by omega, HKI.out, HNV.out, B.out, Gr.out⟩, HLT.out⟩
            · have hnx : ∀ ty, (Instr.next (.pointer (some ⟨ki, 0, none⟩)) true ty).run Tryz.prog wr = .ok (.tuple #[.bool true, .int .i64 3, .int .i32 115]) (wr.iterAt ki letT 4) := fun ty => Lib.run_next_ascii_at wr ki letT 3 ty hki (by decide) (by decide)
              have HKI := Lib.hid (Lib.iterAt_heap wr ki letT 3 4 hki)
              have NK : Hid (ki ≠ g) := Lib.hid (by have := ZG.out; have := ZI.out; omega)
              replace B := Lib.hid (blk_iter B.out NK.out.symm letT 4)
              replace Gr := Lib.hid (gr_iter Gr.out ZI.out letT 4)
              go_upto_region 12 with fail
              clear hnx hki
              generalize World.iterAt wr ki letT 4 = wi at *
              by_cases hc : nx s i bad = some 115
              · skip
                have HK := Lib.hid (im_take s g i 115 bad _ B.out hi hs)
                rw [show (nx s i bad == some 115) = true by simpa using hc, if_pos rfl] at HK
                go_wp2_with fail
                refine HK.out.mono ?_
                rintro e w4 ⟨rfl, hB, hG⟩
                replace Gr := Lib.hid (grG Gr.out hG)
                replace B := Lib.hid hB
                clear hB hG HK
                go_wp2_with fail
                refine (impl_variableR 3 _).mono ?_
                rintro e w5 ⟨u, rfl, ho, hb⟩
                have ZW : W.heap.size ≤ _ := Gr.out.size
                have O : Hid (Ow cN 75 W.heap.size w5 u (enc (.var 3))) := Lib.hid (ho.mono ZW)
                replace B := Lib.hid (B.out.below hb B.out.lt)
                replace Gr := Lib.hid (grB Gr.out hb)
                clear ho hb ZW
                go_wp2
                go_ret
                exact ⟨_, .var 3, _, _, rfl, .var hc (by decide), O.out, B.out, Gr.out⟩
              · have hn115 : Hid ((nx s i bad == some 115) = false) := Lib.hid (by simpa using hc)
                have HNV : Hid (∀ u, u < 3 + 1 → nx s i bad ≠ some (112 + u)) := Lib.hid (fun u hu => by rcases Nat.lt_or_ge u 3 with h | h; exact hnv.out u h; obtain rfl : u = 3 := (by omega); exact hc)
                clear hc
                have HK := Lib.hid (im_take s g i 115 bad _ B.out hi hs)
                rw [hn115.out, if_neg (by decide)] at HK
                go_wp2_with fail
                refine HK.out.mono ?_
                rintro e w4 ⟨rfl, hB, hG⟩
                replace HKI := Lib.hid ((hG.block ki (Array.getElem?_eq_some_iff.1 HKI.out).1 (fun e => NK.out (Option.some.inj e))).trans HKI.out)
                replace Gr := Lib.hid (grG Gr.out hG)
                replace B := Lib.hid hB
                clear hB hG HK
                have HLT : Hid (6 - posI w4.heap[ki]? < 6 - posI wr.heap[ki]?) := Lib.hid (by rw [HPOS.out, HKI.out]; decide)
                go_wp2
                exact ⟨⟨3 + 1, by omega, HKI.out, HNV.out, B.out, Gr.out⟩, HLT.out⟩
            · have hnx : ∀ ty, (Instr.next (.pointer (some ⟨ki, 0, none⟩)) true ty).run Tryz.prog wr = .ok (.tuple #[.bool true, .int .i64 4, .int .i32 116]) (wr.iterAt ki letT 5) := fun ty => Lib.run_next_ascii_at wr ki letT 4 ty hki (by decide) (by decide)
              have HKI := Lib.hid (Lib.iterAt_heap wr ki letT 4 5 hki)
              have NK : Hid (ki ≠ g) := Lib.hid (by have := ZG.out; have := ZI.out; omega)
              replace B := Lib.hid (blk_iter B.out NK.out.symm letT 5)
              replace Gr := Lib.hid (gr_iter Gr.out ZI.out letT 5)
              go_upto_region 12 with fail
              clear hnx hki
              generalize World.iterAt wr ki letT 5 = wi at *
              by_cases hc : nx s i bad = some 116
              · skip
                have HK := Lib.hid (im_take s g i 116 bad _ B.out hi hs)
                rw [show (nx s i bad == some 116) = true by simpa using hc, if_pos rfl] at HK
                go_wp2_with fail
                refine HK.out.mono ?_
                rintro e w4 ⟨rfl, hB, hG⟩
                replace Gr := Lib.hid (grG Gr.out hG)
                replace B := Lib.hid hB
                clear hB hG HK
                go_wp2_with fail
                refine (impl_variableR 4 _).mono ?_
                rintro e w5 ⟨u, rfl, ho, hb⟩
                have ZW : W.heap.size ≤ _ := Gr.out.size
                have O : Hid (Ow cN 75 W.heap.size w5 u (enc (.var 4))) := Lib.hid (ho.mono ZW)
                replace B := Lib.hid (B.out.below hb B.out.lt)
                replace Gr := Lib.hid (grB Gr.out hb)
                clear ho hb ZW
                go_wp2
                go_ret
                exact ⟨_, .var 4, _, _, rfl, .var hc (by decide), O.out, B.out, Gr.out⟩
              · have hn116 : Hid ((nx s i bad == some 116) = false) := Lib.hid (by simpa using hc)
                have HNV : Hid (∀ u, u < 4 + 1 → nx s i bad ≠ some (112 + u)) := Lib.hid (fun u hu => by rcases Nat.lt_or_ge u 4 with h | h; exact hnv.out u h; obtain rfl : u = 4 := (by omega); exact hc)
                clear hc
                have HK := Lib.hid (im_take s g i 116 bad _ B.out hi hs)
                rw [hn116.out, if_neg (by decide)] at HK
                go_wp2_with fail
                refine HK.out.mono ?_
                rintro e w4 ⟨rfl, hB, hG⟩
                replace HKI := Lib.hid ((hG.block ki (Array.getElem?_eq_some_iff.1 HKI.out).1 (fun e => NK.out (Option.some.inj e))).trans HKI.out)
                replace Gr := Lib.hid (grG Gr.out hG)
                replace B := Lib.hid hB
                clear hB hG HK
                have HLT : Hid (6 - posI w4.heap[ki]? < 6 - posI wr.heap[ki]?) := Lib.hid (by rw [HPOS.out, HKI.out]; decide)
                go_wp2
                exact ⟨⟨4 + 1, by omega, HKI.out, HNV.out, B.out, Gr.out⟩, HLT.out⟩
            · have hnx : ∀ ty, (Instr.next (.pointer (some ⟨ki, 0, none⟩)) true ty).run Tryz.prog wr = .ok (.tuple #[.bool true, .int .i64 5, .int .i32 117]) (wr.iterAt ki letT 6) := fun ty => Lib.run_next_ascii_at wr ki letT 5 ty hki (by decide) (by decide)
              have HKI := Lib.hid (Lib.iterAt_heap wr ki letT 5 6 hki)
              have NK : Hid (ki ≠ g) := Lib.hid (by have := ZG.out; have := ZI.out; omega)
              replace B := Lib.hid (blk_iter B.out NK.out.symm letT 6)
              replace Gr := Lib.hid (gr_iter Gr.out ZI.out letT 6)
              go_upto_region 12 with fail
              clear hnx hki
              generalize World.iterAt wr ki letT 6 = wi at *
              by_cases hc : nx s i bad = some 117
              · skip
                have HK := Lib.hid (im_take s g i 117 bad _ B.out hi hs)
                rw [show (nx s i bad == some 117) = true by simpa using hc, if_pos rfl] at HK
                go_wp2_with fail
                refine HK.out.mono ?_
                rintro e w4 ⟨rfl, hB, hG⟩
                replace Gr := Lib.hid (grG Gr.out hG)
                replace B := Lib.hid hB
                clear hB hG HK
                go_wp2_with fail
                refine (impl_variableR 5 _).mono ?_
                rintro e w5 ⟨u, rfl, ho, hb⟩
                have ZW : W.heap.size ≤ _ := Gr.out.size
                have O : Hid (Ow cN 75 W.heap.size w5 u (enc (.var 5))) := Lib.hid (ho.mono ZW)
                replace B := Lib.hid (B.out.below hb B.out.lt)
                replace Gr := Lib.hid (grB Gr.out hb)
                clear ho hb ZW
                go_wp2
                go_ret
                exact ⟨_, .var 5, _, _, rfl, .var hc (by decide), O.out, B.out, Gr.out⟩
              · have hn117 : Hid ((nx s i bad == some 117) = false) := Lib.hid (by simpa using hc)
                have HNV : Hid (∀ u, u < 5 + 1 → nx s i bad ≠ some (112 + u)) := Lib.hid (fun u hu => by rcases Nat.lt_or_ge u 5 with h | h; exact hnv.out u h; obtain rfl : u = 5 := (by omega); exact hc)
                clear hc
                have HK := Lib.hid (im_take s g i 117 bad _ B.out hi hs)
                rw [hn117.out, if_neg (by decide)] at HK
                go_wp2_with fail
                refine HK.out.mono ?_
                rintro e w4 ⟨rfl, hB, hG⟩
                replace HKI := Lib.hid ((hG.block ki (Array.getElem?_eq_some_iff.1 HKI.out).1 (fun e => NK.out (Option.some.inj e))).trans HKI.out)
                replace Gr := Lib.hid (grG Gr.out hG)
                replace B := Lib.hid hB
                clear hB hG HK
                have HLT : Hid (6 - posI w4.heap[ki]? < 6 - posI wr.heap[ki]?) := Lib.hid (by rw [HPOS.out, HKI.out]; decide)
                go_wp2
                exact ⟨⟨5 + 1, by omega, HKI.out, HNV.out, B.out, Gr.out⟩, HLT.out⟩
          · obtain rfl : v = 6 := by omega
            clear hv hv6
            have hnx : ∀ ty, (Instr.next (.pointer (some ⟨ki, 0, none⟩)) true ty).run Tryz.prog wr = .ok (.tuple #[.bool false]) wr := fun ty => Lib.run_next_end_at wr ki letT 6 ty hki (by decide)
            have kb := B.out.cell
            have fb := B.out.frozen
            have lb := B.out.lt
            have hb9 := B.out.set_ 2 (.bool true)
            have hg9 := grown_set Gr.out rfl 2 (.bool true)
            replace B := Lib.hid hb9
            replace Gr := Lib.hid hg9
            clear hb9 hg9
            go_wp2_with fail
            clear kb fb lb
            refine (impl_falsum _).mono ?_
            rintro e w4 ⟨u, rfl, ho, hb⟩
            have ZW : W.heap.size ≤ _ := Gr.out.size
            have O : Hid (Ow cN 75 W.heap.size w4 u (enc .fls)) := Lib.hid (ho.mono ZW)
            replace B := Lib.hid (B.out.below hb B.out.lt)
            replace Gr := Lib.hid (grB Gr.out hb)
            clear ho hb ZW
            go_wp2
            go_ret
            exact ⟨_, .fls, i, true, rfl, .non hnv.out (by have := hn70.out; simpa using this) (by have := hn84.out; simpa using this) (by have := hn126.out; simpa using this) (by have := hn91.out; simpa using this) (by have := hn60.out; simpa using this) (by have := hn40.out; simpa using this), O.out, B.out, Gr.out⟩
set_option maxRecDepth 100000 in
set_option maxHeartbeats 4000000 in
theorem iR_pre (s : ByteArray) (hs : s.size ≤ 1000) (n : Nat) (hp : ∀ i bad, mz s i bad < n → RdC 150 168 s .pre i bad) (hq : ∀ i bad, mz s i bad < n → RdC 140 168 s .imp i bad) : ∀ i bad, mz s i bad ≤ n → RdC 150 168 s .pre i bad := by
  intro i bad hm g W h hi
  have HP := Lib.hid hp
  have HQ := Lib.hid hq
  have B := Lib.hid h
  have ZG : Hid (g < W.heap.size) := Lib.hid h.lt
  have Gr := Lib.hid (World.grownBy.refl W (some g))
  clear hp hq h
  go_enter Tryz.func150, Tryz.ntmps150
  have HA := Lib.hid (iR_atom s hs n HP.out HQ.out i bad hm)
  by_cases hc : nx s i bad = some 126
  · skip
    have hm1 := nx_mz hc hm
    have hi1 := (nx_lt hc).1
    have HK := Lib.hid (im_take s g i 126 bad _ B.out hi hs)
    rw [show (nx s i bad == some 126) = true by simpa using hc, if_pos rfl] at HK
    go_wp2_with fail
    refine HK.out.mono ?_
    rintro e w1 ⟨rfl, hB, hG⟩
    replace Gr := Lib.hid (grG Gr.out hG)
    replace B := Lib.hid hB
    clear hB hG HK
    have HF := Lib.hid (HP.out (i + 1) bad hm1 g _ B.out hi1)
    have ZW : W.heap.size ≤ _ := Gr.out.size
    go_wp2_with fail
    refine HF.out.mono ?_
    rintro e w2 ⟨u, a, j, c, rfl, hR, ho, hB, hG⟩
    have hL := hR.len1 rfl
    have hjs := hR.len.2.1 hi1
    have HR := Lib.hid hR
    have O := Lib.hid (ho.mono ZW)
    replace Gr := Lib.hid (grG Gr.out hG)
    replace B := Lib.hid hB
    clear hB hG HF ho hR ZW
    have ZW : W.heap.size ≤ _ := Gr.out.size
    have hl1 : (enc a).length ≤ 4000 := by omega
    go_wp2_with fail
    refine (impl_negation _ (enc a) _ O.out.sl (by omega)).mono ?_
    rintro e w3 ⟨r, rfl, ho, hb⟩
    have O3 : Hid (Ow cN 75 W.heap.size w3 r (enc (.bin .imp a .fls))) := Lib.hid (by have := ho.mono ZW; simpa [enc, BK.i, UK.i] using this)
    replace B := Lib.hid (B.out.below hb B.out.lt)
    replace Gr := Lib.hid (grB Gr.out hb)
    clear ho hb ZW O
    obtain ⟨A9, c9, hv9⟩ := O3.out.opn
    subst hv9
    go_wp2
    go_ret
    exact ⟨_, .bin .imp a .fls, _, _, rfl, .not hc HR.out, O3.out, B.out, Gr.out⟩
  · have hn126 : Hid ((nx s i bad == some 126) = false) := Lib.hid (by simpa using hc)
    clear hc
    have HK := Lib.hid (im_take s g i 126 bad _ B.out hi hs)
    rw [hn126.out, if_neg (by decide)] at HK
    go_wp2_with fail
    refine HK.out.mono ?_
    rintro e w1 ⟨rfl, hB, hG⟩
    replace Gr := Lib.hid (grG Gr.out hG)
    replace B := Lib.hid hB
    clear hB hG HK
    by_cases hc : nx s i bad = some 91
    · skip
      have hm1 := nx_mz hc hm
      have hi1 := (nx_lt hc).1
      have HK := Lib.hid (im_take s g i 91 bad _ B.out hi hs)
      rw [show (nx s i bad == some 91) = true by simpa using hc, if_pos rfl] at HK
      go_wp2_with fail
      refine HK.out.mono ?_
      rintro e w2 ⟨rfl, hB, hG⟩
      replace Gr := Lib.hid (grG Gr.out hG)
      replace B := Lib.hid hB
      clear hB hG HK
      have HK := Lib.hid (im_need s g (i + 1) 93 bad _ B.out hi1 hs)
      go_wp2_with fail
      refine HK.out.mono ?_
      rintro e w3 ⟨rfl, hB, hG⟩
      replace Gr := Lib.hid (grG Gr.out hG)
      replace B := Lib.hid hB
      clear hB hG HK
      have hm2 := Nat.lt_of_le_of_lt (ned_mz s (i + 1) bad 93) hm1
      have hi2 := (ned_le s (i + 1) bad 93).2 hi1
      have HF := Lib.hid (HP.out _ _ hm2 g _ B.out hi2)
      have ZW : W.heap.size ≤ _ := Gr.out.size
      go_wp2_with fail
      refine HF.out.mono ?_
      rintro e w4 ⟨u, a, j, c, rfl, hR, ho, hB, hG⟩
      have hL := hR.len1 rfl
      have hjs := hR.len.2.1 hi2
      have HR := Lib.hid hR
      have O := Lib.hid (ho.mono ZW)
      replace Gr := Lib.hid (grG Gr.out hG)
      replace B := Lib.hid hB
      clear hB hG HF ho hR ZW
      have ZW : W.heap.size ≤ _ := Gr.out.size
      have hl1 : (enc a).length ≤ 4000 := by omega
      go_wp2_with fail
      refine (impl_prefixR 5 _ (enc a) _ O.out.sl (by omega)).mono ?_
      rintro e w5 ⟨r, rfl, ho, hb⟩
      have O3 : Hid (Ow cN 75 W.heap.size w5 r (enc (.un .box a))) := Lib.hid (by have := ho.mono ZW; simpa [enc, BK.i, UK.i] using this)
      replace B := Lib.hid (B.out.below hb B.out.lt)
      replace Gr := Lib.hid (grB Gr.out hb)
      clear ho hb ZW O
      obtain ⟨A9, c9, hv9⟩ := O3.out.opn
      subst hv9
      go_wp2
      go_ret
      exact ⟨_, .un .box a, _, _, rfl, .box hc HR.out, O3.out, B.out, Gr.out⟩
    · have hn91 : Hid ((nx s i bad == some 91) = false) := Lib.hid (by simpa using hc)
      clear hc
      have HK := Lib.hid (im_take s g i 91 bad _ B.out hi hs)
      rw [hn91.out, if_neg (by decide)] at HK
      go_wp2_with fail
      refine HK.out.mono ?_
      rintro e w2 ⟨rfl, hB, hG⟩
      replace Gr := Lib.hid (grG Gr.out hG)
      replace B := Lib.hid hB
      clear hB hG HK
      by_cases hc : nx s i bad = some 60
      · skip
        have hm1 := nx_mz hc hm
        have hi1 := (nx_lt hc).1
        have HK := Lib.hid (im_take s g i 60 bad _ B.out hi hs)
        rw [show (nx s i bad == some 60) = true by simpa using hc, if_pos rfl] at HK
        go_wp2_with fail
        refine HK.out.mono ?_
        rintro e w3 ⟨rfl, hB, hG⟩
        replace Gr := Lib.hid (grG Gr.out hG)
        replace B := Lib.hid hB
        clear hB hG HK
        have HK := Lib.hid (im_need s g (i + 1) 62 bad _ B.out hi1 hs)
        go_wp2_with fail
        refine HK.out.mono ?_
        rintro e w4 ⟨rfl, hB, hG⟩
        replace Gr := Lib.hid (grG Gr.out hG)
        replace B := Lib.hid hB
        clear hB hG HK
        have hm2 := Nat.lt_of_le_of_lt (ned_mz s (i + 1) bad 62) hm1
        have hi2 := (ned_le s (i + 1) bad 62).2 hi1
        have HF := Lib.hid (HP.out _ _ hm2 g _ B.out hi2)
        have ZW : W.heap.size ≤ _ := Gr.out.size
        go_wp2_with fail
        refine HF.out.mono ?_
        rintro e w5 ⟨u, a, j, c, rfl, hR, ho, hB, hG⟩
        have hL := hR.len1 rfl
        have hjs := hR.len.2.1 hi2
        have HR := Lib.hid hR
        have O := Lib.hid (ho.mono ZW)
        replace Gr := Lib.hid (grG Gr.out hG)
        replace B := Lib.hid hB
        clear hB hG HF ho hR ZW
        have ZW : W.heap.size ≤ _ := Gr.out.size
        have hl1 : (enc a).length ≤ 4000 := by omega
        go_wp2_with fail
        refine (impl_prefixR 6 _ (enc a) _ O.out.sl (by omega)).mono ?_
        rintro e w6 ⟨r, rfl, ho, hb⟩
        have O3 : Hid (Ow cN 75 W.heap.size w6 r (enc (.un .dia a))) := Lib.hid (by have := ho.mono ZW; simpa [enc, BK.i, UK.i] using this)
        replace B := Lib.hid (B.out.below hb B.out.lt)
        replace Gr := Lib.hid (grB Gr.out hb)
        clear ho hb ZW O
        obtain ⟨A9, c9, hv9⟩ := O3.out.opn
        subst hv9
        go_wp2
        go_ret
        exact ⟨_, .un .dia a, _, _, rfl, .dia hc HR.out, O3.out, B.out, Gr.out⟩
      · have hn60 : Hid ((nx s i bad == some 60) = false) := Lib.hid (by simpa using hc)
        clear hc
        have HK := Lib.hid (im_take s g i 60 bad _ B.out hi hs)
        rw [hn60.out, if_neg (by decide)] at HK
        go_wp2_with fail
        refine HK.out.mono ?_
        rintro e w3 ⟨rfl, hB, hG⟩
        replace Gr := Lib.hid (grG Gr.out hG)
        replace B := Lib.hid hB
        clear hB hG HK
        have x126 : nx s i bad ≠ some 126 := by have := hn126.out; simpa using this
        have x91 : nx s i bad ≠ some 91 := by have := hn91.out; simpa using this
        have x60 : nx s i bad ≠ some 60 := by have := hn60.out; simpa using this
        have ZW : W.heap.size ≤ _ := Gr.out.size
        have HF := Lib.hid (HA.out x126 x91 x60 g _ B.out hi)
        go_wp2_with fail
        refine HF.out.mono ?_
        rintro e w4 ⟨u, a, j, c, rfl, hR, ho, hB, hG⟩
        have HR := Lib.hid hR
        have O := Lib.hid (ho.mono ZW)
        replace Gr := Lib.hid (grG Gr.out hG)
        replace B := Lib.hid hB
        clear hB hG HF ho hR ZW
        obtain ⟨A9, c9, hv9⟩ := O.out.opn
        subst hv9
        go_wp2
        go_ret
        exact ⟨_, a, j, c, rfl, HR.out, O.out, B.out, Gr.out⟩
/- Contracts of ParseFormula, of the program and of the reference, by the relation of the readers; isText and l02Good. -/
theorem sR_all (s : ByteArray) (hs : s.size ≤ 1000) : ∀ n, (∀ i bad, mz s i bad ≤ n → RdC 149 163 s .pre i bad) ∧ ∀ i bad, mz s i bad ≤ n → RdC 136 163 s .imp i bad := by
  intro n
  induction n using Nat.strongRecOn with
  | ind n ih =>
    have hp := sR_pre s hs n (fun i bad hm => (ih _ hm).1 i bad (Nat.le_refl _)) (fun i bad hm => (ih _ hm).2 i bad (Nat.le_refl _))
    exact ⟨hp, sR_imp s hs n (sR_or s hs n (sR_and s hs n hp)) (fun i bad hm => (ih _ hm).2 i bad (Nat.le_refl _))⟩
theorem iR_all (s : ByteArray) (hs : s.size ≤ 1000) : ∀ n, (∀ i bad, mz s i bad ≤ n → RdC 150 168 s .pre i bad) ∧ ∀ i bad, mz s i bad ≤ n → RdC 140 168 s .imp i bad := by
  intro n
  induction n using Nat.strongRecOn with
  | ind n ih =>
    have hp := iR_pre s hs n (fun i bad hm => (ih _ hm).1 i bad (Nat.le_refl _)) (fun i bad hm => (ih _ hm).2 i bad (Nat.le_refl _))
    exact ⟨hp, iR_imp s hs n (iR_or s hs n (iR_and s hs n hp)) (fun i bad hm => (ih _ hm).2 i bad (Nat.le_refl _))⟩
/-- what reading a text to its end gives -/
def PfC (s : ByteArray) (w : World) (e : Ending) (w' : World) : Prop := ∃ (a : Fm) (j : Nat) (c : Bool), Rdf s .imp .fls 0 false a j c ∧ j ≤ s.size ∧
  (((c = true ∨ j < s.size) ∧ ∃ x : Int, e = .returned (.tuple #[.slice none 0 0, .int .i64 x, .int .i64 6])) ∨
   (c = false ∧ j = s.size ∧ 40 < (enc a).length ∧ e = .returned (.tuple #[.slice none 0 0, .int .i64 0, .int .i64 3])) ∨
   (c = false ∧ j = s.size ∧ (enc a).length ≤ 40 ∧ ∃ A k, e = .returned (.tuple #[.slice A (enc a).length k, .int .i64 0, .int .i64 0]) ∧ A ≠ none ∧ Sl cN w' (.slice A (enc a).length k) (enc a))) ∧ Below w.heap.size w w'
theorem enc_some {w : World} {B : Nat} {e : TypeId} {A : Option Addr} {n k : Nat} {a : Fm} (h : Ow cN e B w (.slice A n k) (enc a)) : A ≠ none := by
  obtain ⟨g, c, hv, -⟩ := h.form (enc_pos a)
  injection hv with hA
  rw [hA]
  exact Option.some_ne_none _
theorem impl_ParseFormula_long (s : ByteArray) (w : World) (hs : 200 < s.size) (hm : s.size ≤ 1048576) :
    Calls Tryz.prog 134 #[.string s] w fun e w' => e = .returned (.tuple #[.slice none 0 0, .int .i64 0, .int .i64 3]) ∧ Below w.heap.size w w' := by
  have A := Lib.hid (Below.refl w.heap.size w)
  go_enter Tryz.func134, Tryz.ntmps134
  go_wp2
  exact bodyPost_ret (v := .tuple #[.slice none 0 0, .int .i64 0, .int .i64 3]) (by simp [results, Tryz.results134, go_sem]) rfl ⟨rfl, A.out⟩
theorem spec_ParseFormula_long (s : ByteArray) (w : World) (hs : 200 < s.size) (hm : s.size ≤ 1048576) :
    Calls Tryz.prog 121 #[.string s] w fun e w' => e = .returned (.tuple #[.slice none 0 0, .int .i64 0, .int .i64 3]) ∧ Below w.heap.size w w' := by
  have A := Lib.hid (Below.refl w.heap.size w)
  go_enter Tryz.func121, Tryz.ntmps121
  go_wp2
  exact bodyPost_ret (v := .tuple #[.slice none 0 0, .int .i64 0, .int .i64 3]) (by simp [results, Tryz.results121, go_sem]) rfl ⟨rfl, A.out⟩
theorem impl_ParseFormula (s : ByteArray) (w : World) (hs : s.size ≤ 200) :
    Calls Tryz.prog 134 #[.string s] w fun e w' => PfC s w e w' := by
  have hb := below_alloc' w (.cells #[.string s, .int .i64 0, .bool false] 168)
  have hB := Blk.new w 168 #[.string s, .int .i64 0, .bool false]
  have HF := Lib.hid ((iR_all s (by omega) (mz s 0 false)).2 0 false (Nat.le_refl _) w.heap.size _ hB (Nat.zero_le _))
  have HB := Lib.hid hb
  clear hb hB
  go_enter Tryz.func134, Tryz.ntmps134
  go_wp2_with fail
  refine HF.out.mono ?_
  rintro e w1 ⟨u, a, j, c, rfl, hR, ho, hB, hG⟩
  have hj := hR.len.2.1 (Nat.zero_le _)
  have hL := hR.len1 rfl
  obtain ⟨A9, c9, hv9⟩ := ho.opn
  subst hv9
  have O := Lib.hid ho
  have HN := Lib.hid (enc_some ho)
  have BB := Lib.hid (below_grown HB.out hG HB.out.size (fun k e => by injection e; omega))
  have kr := hB.cell
  have fr := hB.frozen
  have lr := hB.lt
  have R := Lib.hid hR
  clear ho hB hG HB HF hR
  cases c with
  | true =>
    go_wp2
    go_quiet (fail)
    go_wp2
    exact bodyPost_ret (v := .tuple #[.slice none 0 0, .int .i64 (j : Int), .int .i64 6]) (by simp [results, Tryz.results134, go_sem]) rfl ⟨a, j, _, R.out, hj, .inl ⟨.inl rfl, _, rfl⟩, below_drewN BB.out _⟩
  | false =>
    by_cases hjs : j < s.size
    · go_wp2
      go_quiet (fail)
      go_wp2
      exact bodyPost_ret (v := .tuple #[.slice none 0 0, .int .i64 (j : Int), .int .i64 6]) (by simp [results, Tryz.results134, go_sem]) rfl ⟨a, j, _, R.out, hj, .inl ⟨.inr hjs, _, rfl⟩, below_drewN BB.out _⟩
    · obtain rfl : j = s.size := by omega
      by_cases h40 : 40 < (enc a).length
      · go_wp2
        exact bodyPost_ret (v := .tuple #[.slice none 0 0, .int .i64 0, .int .i64 3]) (by simp [results, Tryz.results134, go_sem]) rfl ⟨a, _, _, R.out, Nat.le_refl _, .inr (.inl ⟨rfl, rfl, h40, rfl⟩), BB.out⟩
      · go_wp2
        exact bodyPost_ret (v := .tuple #[.slice A9 (enc a).length c9, .int .i64 0, .int .i64 0]) (by simp [results, Tryz.results134, go_sem]) rfl ⟨a, _, _, R.out, Nat.le_refl _, .inr (.inr ⟨rfl, rfl, by omega, _, _, rfl, HN.out, O.out.sl⟩), BB.out⟩
/-- what l02Read gives -/
def RdE (s : ByteArray) (w : World) (e : Ending) (w' : World) : Prop := ∃ (a : Fm) (j : Nat) (c : Bool), Rdf s .imp .fls 0 false a j c ∧ j ≤ s.size ∧
  (((c = true ∨ j < s.size) ∧ e = .returned (.tuple #[.slice none 0 0, .int .i64 (j : Int)])) ∨
   (c = false ∧ j = s.size ∧ ∃ A k, e = .returned (.tuple #[.slice A (enc a).length k, .int .i64 (-1)]) ∧ A ≠ none ∧ Sl cN w' (.slice A (enc a).length k) (enc a))) ∧ Below w.heap.size w w'
theorem spec_l02Read (s : ByteArray) (w : World) (hs : s.size ≤ 200) :
    Calls Tryz.prog 132 #[.string s] w fun e w' => RdE s w e w' := by
  have hb := below_alloc' w (.cells #[.string s, .int .i64 0, .bool false] 163)
  have hB := Blk.new w 163 #[.string s, .int .i64 0, .bool false]
  have HF := Lib.hid ((sR_all s (by omega) (mz s 0 false)).2 0 false (Nat.le_refl _) w.heap.size _ hB (Nat.zero_le _))
  have HB := Lib.hid hb
  clear hb hB
  go_enter Tryz.func132, Tryz.ntmps132
  go_wp2_with fail
  refine HF.out.mono ?_
  rintro e w1 ⟨u, a, j, c, rfl, hR, ho, hB, hG⟩
  have hj := hR.len.2.1 (Nat.zero_le _)
  have hL := hR.len1 rfl
  obtain ⟨A9, c9, hv9⟩ := ho.opn
  subst hv9
  have O := Lib.hid ho
  have HN := Lib.hid (enc_some ho)
  have BB := Lib.hid (below_grown HB.out hG HB.out.size (fun k e => by injection e; omega))
  have kr := hB.cell
  have fr := hB.frozen
  have lr := hB.lt
  have R := Lib.hid hR
  clear ho hB hG HB HF hR
  cases c with
  | true =>
    go_wp2
    go_quiet (fail)
    go_wp2
    exact bodyPost_ret (v := .tuple #[.slice none 0 0, .int .i64 (j : Int)]) (by simp [results, Tryz.results132, go_sem]) rfl ⟨a, j, _, R.out, hj, .inl ⟨.inl rfl, rfl⟩, below_drewN BB.out _⟩
  | false =>
    by_cases hjs : j < s.size
    · go_wp2
      go_quiet (fail)
      go_wp2
      exact bodyPost_ret (v := .tuple #[.slice none 0 0, .int .i64 (j : Int)]) (by simp [results, Tryz.results132, go_sem]) rfl ⟨a, j, _, R.out, hj, .inl ⟨.inr hjs, rfl⟩, below_drewN BB.out _⟩
    · obtain rfl : j = s.size := by omega
      go_wp2
      exact bodyPost_ret (v := .tuple #[.slice A9 (enc a).length c9, .int .i64 (-1)]) (by simp [results, Tryz.results132, go_sem]) rfl ⟨a, _, _, R.out, Nat.le_refl _, .inr ⟨rfl, rfl, _, _, rfl, HN.out, O.out.sl⟩, BB.out⟩
theorem spec_ParseFormula (s : ByteArray) (w : World) (hs : s.size ≤ 200) :
    Calls Tryz.prog 121 #[.string s] w fun e w' => PfC s w e w' := by
  have HF := Lib.hid (spec_l02Read s w hs)
  go_enter Tryz.func121, Tryz.ntmps121
  go_wp2_with fail
  refine HF.out.mono ?_
  rintro e w1 ⟨a, j, c, hR, hj, hE, hb⟩
  have R := Lib.hid hR
  have BB := Lib.hid hb
  clear HF hR hb
  rcases hE with ⟨hc, rfl⟩ | ⟨rfl, rfl, A, k, rfl, hA, hS⟩
  · have HC := Lib.hid hc
    clear hc
    go_wp2
    exact bodyPost_ret (v := .tuple #[.slice none 0 0, .int .i64 (j : Int), .int .i64 6]) (by simp [results, Tryz.results121, go_sem]) rfl ⟨a, j, _, R.out, hj, .inl ⟨HC.out, _, rfl⟩, BB.out⟩
  · have HA := Lib.hid hA
    have S := Lib.hid hS
    clear hA hS
    by_cases h40 : 40 < (enc a).length
    · go_wp2
      exact bodyPost_ret (v := .tuple #[.slice none 0 0, .int .i64 0, .int .i64 3]) (by simp [results, Tryz.results121, go_sem]) rfl ⟨a, _, _, R.out, Nat.le_refl _, .inr (.inl ⟨rfl, rfl, h40, rfl⟩), BB.out⟩
    · go_wp2
      exact bodyPost_ret (v := .tuple #[.slice A (enc a).length k, .int .i64 0, .int .i64 0]) (by simp [results, Tryz.results121, go_sem]) rfl ⟨a, _, _, R.out, Nat.le_refl _, .inr (.inr ⟨rfl, rfl, by omega, _, _, rfl, HA.out, S.out⟩), BB.out⟩
theorem ba_ne {a b : ByteArray} (h : ¬ a = b) : ¬ a.toList = b.toList := by
  intro e
  apply h
  rw [Go.ByteArray.toList_eq, Go.ByteArray.toList_eq] at e
  obtain ⟨⟨a⟩⟩ := a
  obtain ⟨⟨b⟩⟩ := b
  simp at e
  rw [e]
/-- a text is that of a formula -/
def TX (s : ByteArray) : Prop := s.size ≤ 200 ∧ ∃ a : Fm, Rdf s .imp .fls 0 false a s.size false ∧ (enc a).length ≤ 40 ∧ txt a = s
theorem tx_no {s : ByteArray} {a : Fm} {j : Nat} {c : Bool} (h : Rdf s .imp .fls 0 false a j c) (hc : (c = true ∨ j < s.size) ∨ 40 < (enc a).length ∨ txt a ≠ s) : ¬ TX s := by
  rintro ⟨-, b, hb, hl, ht⟩
  obtain ⟨rfl, rfl, rfl⟩ := h.one hb
  rcases hc with (hc | hc) | hc | hc
  · cases hc
  · omega
  · omega
  · exact hc ht
theorem impl_parsed (s : ByteArray) (w : World) (hm : s.size ≤ 1048576) :
    Calls Tryz.prog 125 #[.string s] w fun e w' => ((e = .returned (.slice none 0 0) ∧ ¬ TX s) ∨ ∃ a A k, e = .returned (.slice A (enc a).length k) ∧ A ≠ none ∧ (enc a).length ≤ 40 ∧ a.ok = true ∧ Sl cN w' (.slice A (enc a).length k) (enc a) ∧ (TX s ↔ txt a = s)) ∧ Below w.heap.size w w' := by
  rcases Nat.lt_or_ge 200 s.size with h200 | h200
  · have HF := Lib.hid (impl_ParseFormula_long s w h200 hm)
    have HN : Hid (¬ TX s) := Lib.hid (fun h => by have := h.1; omega)
    clear h200
    go_enter Tryz.func125, Tryz.ntmps125
    go_wp2_with fail
    refine HF.out.mono ?_
    rintro e w1 ⟨rfl, hb⟩
    have BB := Lib.hid hb
    clear hb HF
    go_wp2
    go_ret
    exact ⟨.inl ⟨rfl, HN.out⟩, BB.out⟩
  · have HF := Lib.hid (impl_ParseFormula s w h200)
    go_enter Tryz.func125, Tryz.ntmps125
    go_wp2_with fail
    refine HF.out.mono ?_
    rintro e w1 ⟨a, j, c, hR, hj, hE, hb⟩
    have R := Lib.hid hR
    have BB := Lib.hid hb
    clear HF hR hb
    rcases hE with ⟨hc, x, rfl⟩ | ⟨rfl, rfl, h40, rfl⟩ | ⟨rfl, rfl, h40, A, k, rfl, hA, hS⟩
    · have HN := Lib.hid (tx_no R.out (.inl hc))
      clear hc
      go_wp2
      go_ret
      exact ⟨.inl ⟨rfl, HN.out⟩, BB.out⟩
    · have HN := Lib.hid (tx_no R.out (.inr (.inl h40)))
      clear h40
      go_wp2
      go_ret
      exact ⟨.inl ⟨rfl, HN.out⟩, BB.out⟩
    · have HI : Hid (TX s ↔ txt a = s) := Lib.hid ⟨fun h => Classical.byContradiction fun hn => tx_no R.out (.inr (.inr hn)) h, fun h => ⟨h200, a, R.out, h40, h⟩⟩
      have HA := Lib.hid hA
      have S := Lib.hid hS
      clear hA hS
      go_wp2
      go_ret
      exact ⟨.inr ⟨a, _, _, rfl, HA.out, h40, R.out.good (fun h => by cases h), S.out, HI.out⟩, BB.out⟩
theorem spec_l02Good (s : ByteArray) (b : Bool) (hb : b = true ↔ TX s) (w : World) (hm : s.size ≤ 1048576) :
    Calls Tryz.prog 103 #[.string s] w fun e w' => ∃ u, e = .returned (.tuple #[u, .bool b]) ∧ Below w.heap.size w w' := by
  rcases Nat.lt_or_ge 200 s.size with h200 | h200
  · have HF := Lib.hid (spec_ParseFormula_long s w h200 hm)
    obtain rfl : b = false := by cases b with | false => rfl | true => (have := (hb.1 rfl).1; omega)
    clear h200 hb
    go_enter Tryz.func103, Tryz.ntmps103
    go_wp2_with fail
    refine HF.out.mono ?_
    rintro e w1 ⟨rfl, hbb⟩
    have BB := Lib.hid hbb
    clear hbb HF
    go_wp2
    exact bodyPost_ret (v := .tuple #[.slice none 0 0, .bool false]) (by simp [results, Tryz.results103, go_sem]) rfl ⟨_, rfl, BB.out⟩
  · have HF := Lib.hid (spec_ParseFormula s w h200)
    go_enter Tryz.func103, Tryz.ntmps103
    go_wp2_with fail
    refine HF.out.mono ?_
    rintro e w1 ⟨a, j, c, hR, hj, hE, hbb⟩
    have R := Lib.hid hR
    have BB := Lib.hid hbb
    clear HF hR hbb
    rcases hE with ⟨hc, x, rfl⟩ | ⟨rfl, rfl, h40, rfl⟩ | ⟨rfl, rfl, h40, A, k, rfl, hA, hS⟩
    · have hn := tx_no R.out (.inl hc)
      obtain rfl : b = false := by cases b with | false => rfl | true => exact absurd (hb.1 rfl) hn
      clear hc hn hb
      go_wp2
      exact bodyPost_ret (v := .tuple #[.slice none 0 0, .bool false]) (by simp [results, Tryz.results103, go_sem]) rfl ⟨_, rfl, BB.out⟩
    · have hn := tx_no R.out (.inr (.inl h40))
      obtain rfl : b = false := by cases b with | false => rfl | true => exact absurd (hb.1 rfl) hn
      clear h40 hn hb
      go_wp2
      exact bodyPost_ret (v := .tuple #[.slice none 0 0, .bool false]) (by simp [results, Tryz.results103, go_sem]) rfl ⟨_, rfl, BB.out⟩
    · have HI : Hid (TX s ↔ txt a = s) := Lib.hid ⟨fun h => Classical.byContradiction fun hn => tx_no R.out (.inr (.inr hn)) h, fun h => ⟨h200, a, R.out, h40, h⟩⟩
      have HT := Lib.hid (spec_l02Text a _ _ hS (by omega) (R.out.good (fun h => by cases h)))
      have HB := Lib.hid hb
      clear hA hS hb
      go_wp2_with fail
      refine HT.out.mono ?_
      rintro e w2 ⟨rfl, hb2⟩
      replace BB := Lib.hid (bthen BB.out hb2)
      clear HT hb2
      by_cases ht : txt a = s
      · obtain rfl : b = true := HB.out.2 (HI.out.2 ht)
        clear HB HI
        go_wp2
        exact bodyPost_ret (v := .tuple #[.slice A (enc a).length k, .bool true]) (by simp [results, Tryz.results103, go_sem, ht]) rfl ⟨_, rfl, BB.out⟩
      · obtain rfl : b = false := by cases b with | false => rfl | true => exact absurd (HI.out.1 (HB.out.1 rfl)) ht
        clear HB HI
        have hne := ba_ne ht
        go_wp2
        exact bodyPost_ret (v := .tuple #[.slice A (enc a).length k, .bool false]) (by simp [results, Tryz.results103, go_sem, hne]) rfl ⟨_, rfl, BB.out⟩
end Go.Proofs.YtcikenffeekkeaaGreatDoor
