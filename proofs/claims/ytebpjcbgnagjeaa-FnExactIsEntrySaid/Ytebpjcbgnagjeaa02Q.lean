/- Contracts of the reader of formulas' texts, of the reference: its levels (written by gen02Q.py). -/
import Derived.Test.Ytebpjcbgnagjeaa02R
namespace Go.Proofs.Ytebpjcbgnagjeaa
open Go.RowKit
set_option linter.unusedVariables false
set_option linter.unusedSimpArgs false
/-- a level of a reader: from this state it gives what the relation says -/
def RdC (f : Nat) (ty : TypeId) (s : ByteArray) (l : Lv) (i : Nat) (bad : Bool) : Prop := ∀ (g : Nat) (W : World), Blk W g ty #[.string s, .int .i64 (i : Int), .bool bad] → i ≤ s.size →
  Calls Try.prog f #[.pointer (some ⟨g, 0, none⟩)] W fun e w' => ∃ (u : Value) (a : Fm) (j : Nat) (c : Bool), e = .returned u ∧ Rdf s l .fls i bad a j c ∧ Ow cN 48 W.heap.size w' u (enc a) ∧ Blk w' g ty #[.string s, .int .i64 (j : Int), .bool c] ∧ W.grownBy w' (some g)
theorem keepG {α : Type} {K : Cod α} {e : TypeId} {B g : Nat} {X Y : World} {u : Value} {L : List α} (h : Ow K e B X u L) (hg : X.grownBy Y (some g)) (hlt : g < B) : Ow K e B Y u L := h.kept hg (by
  cases hv : u.ownBlock with
  | none => exact .inl rfl
  | some k => exact .inr (fun e => by injection e; have := h.block k hv; omega))
theorem grG {w X Y : World} {g : Nat} (h : w.grownBy X (some g)) (k : X.grownBy Y (some g)) : w.grownBy Y (some g) :=
  ⟨k.os.trans h.os, k.tape.trans h.tape, k.output.trans h.output, Nat.le_trans h.size k.size, fun i hi hne => (k.block i (Nat.lt_of_lt_of_le hi h.size) hne).trans (h.block i hi hne)⟩
theorem grB {w X Y : World} {g : Nat} (h : w.grownBy X (some g)) (k : Below X.heap.size X Y) : w.grownBy Y (some g) :=
  ⟨k.os.trans h.os, k.tape.trans h.tape, k.output.trans h.output, Nat.le_trans h.size k.size, fun i hi hne => (k.block i (Nat.lt_of_lt_of_le hi h.size)).trans (h.block i hi hne)⟩
def posN : Option Value → Nat
  | some (.int _ x) => x.toNat
  | _ => 0
set_option maxRecDepth 100000 in
set_option maxHeartbeats 4000000 in
theorem sR_and (s : ByteArray) (hs : s.size ≤ 1000) (n : Nat) (hp : ∀ i bad, mz s i bad ≤ n → RdC 53 45 s .pre i bad) : ∀ i bad, mz s i bad ≤ n → RdC 48 45 s .and i bad := by
  intro i bad hm g W h hi
  have HP := Lib.hid hp
  have HB := Lib.hid h
  have ZG : Hid (g < W.heap.size) := Lib.hid h.lt
  have HF := Lib.hid (hp i bad hm g W h hi)
  clear hp h
  go_enter Try.func48, Try.ntmps48
  go_wp2_with fail
  refine HF.out.mono ?_
  rintro e w1 ⟨u, a, j, c, rfl, hR, ho, hB, hG⟩
  have hj := hR.len.2.1 hi
  have hij := hR.len.1
  have hL : (enc a).length ≤ 1 + 3 * j := by have := hR.len1 rfl; omega
  have hmj : mz s j c ≤ n := Nat.le_trans hR.mz hm
  have HT : ∀ o k d, Rdf s .andT a j c o k d → Rdf s .and .fls i bad o k d := fun o k d t => .and hR t
  have O := Lib.hid ho
  have B := Lib.hid hB
  have G := Lib.hid hG
  replace HT := Lib.hid HT
  clear ho hB hG hR HF HB
  go_wp2
  go_loopw [3] (fun u wr => ∃ (a : Fm) (j : Nat) (c : Bool), j ≤ s.size ∧ (enc a).length ≤ 1 + 3 * j ∧ mz s j c ≤ n ∧ (∀ o k d, Rdf s .andT a j c o k d → Rdf s .and .fls i bad o k d) ∧ Ow cN 48 W.heap.size wr u (enc a) ∧ Blk wr g 45 #[.string s, .int .i64 (j : Int), .bool c] ∧ W.grownBy wr (some g)) (fun _ wr => s.size - posN (wr.cell? ⟨g, 1, none⟩))
  case atStart => exact ⟨a, j, c, hj, hL, hmj, HT.out, O.out, B.out, G.out⟩
  case round =>
    clear hj hL hmj HT O B G hij hm
    obtain ⟨a, j, c, hj, hL, hmj, HT, O, B, G⟩ := hrel
    replace HT := Lib.hid HT
    replace O := Lib.hid O
    replace B := Lib.hid B
    replace G := Lib.hid G
    have HK := Lib.hid (sp_take s g j 38 c wr B.out hj hs)
    by_cases hc : nx s j c = some 38
    · have hn : (nx s j c == some 38) = true := by simpa using hc
      rw [hn, if_pos rfl] at HK
      have hm1 := nx_mz hc hmj
      have hj1 := (nx_lt hc).1
      have HTC := Lib.hid (fun b k d hb o k' d' t => HT.out o k' d' (.andC hc (b := b) (j := k) (c := d) hb t))
      have hpos : posN (wr.cell? ⟨g, 1, none⟩) = j := by rw [B.out.cell 1]; simp [posN]
      have HPOS := Lib.hid hpos
      clear hc hn HT hpos
      go_wp2_with fail
      refine HK.out.mono ?_
      rintro e w2 ⟨rfl, hB, hG⟩
      replace O := Lib.hid (keepG O.out hG ZG.out)
      replace G := Lib.hid (grG G.out hG)
      have HF := Lib.hid (HP.out (j + 1) c (by omega) g w2 hB hj1)
      clear hB hG HK B
      go_wp2_with fail
      refine HF.out.mono ?_
      rintro e w3 ⟨u2, b, k, d, rfl, hR, ho, hB, hG⟩
      have hk := hR.len.2.1 hj1
      have hjk := hR.len.1
      have hLb := hR.len1 rfl
      have hmk : mz s k d ≤ n := by have := hR.mz; omega
      have hT2 := HTC.out b k d hR
      replace O := Lib.hid (keepG O.out hG ZG.out)
      have ZW : W.heap.size ≤ w2.heap.size := G.out.size
      replace G := Lib.hid (grG G.out hG)
      have O2 := Lib.hid (ho.mono ZW)
      have B := Lib.hid hB
      have HT := Lib.hid hT2
      clear ho hB hG hR HF HTC hT2
      have hl1 : (enc a).length ≤ 4000 := by omega
      have hl2 : (enc b).length ≤ 4000 := by omega
      go_wp2_with fail
      refine (spec_l02Pair 2 _ _ (enc a) (enc b) _ O.out.sl O2.out.sl (by have := hl1; omega) (by have := hl2; omega)).mono ?_
      rintro e w4 ⟨r, rfl, ho, hb⟩
      have ZW3 : W.heap.size ≤ w3.heap.size := G.out.size
      have O3 : Hid (Ow cN 48 W.heap.size w4 r (enc (.bin .and a b))) := Lib.hid (by have := ho.mono ZW3; simpa [enc, BK.i] using this)
      have hL3 : (enc (.bin .and a b)).length ≤ 1 + 3 * k := by simp only [enc, List.length_cons, List.length_append]; omega
      replace B := Lib.hid (B.out.below hb B.out.lt)
      replace G := Lib.hid (grB G.out hb)
      have HL3 := Lib.hid hL3
      clear ho hb O O2 hL3 ZW3 ZW
      have hlt : s.size - posN (w4.cell? ⟨g, 1, none⟩) < s.size - posN (wr.cell? ⟨g, 1, none⟩) := by
        rw [HPOS.out, B.out.cell 1]
        simp [posN]
        omega
      have HLT := Lib.hid hlt
      obtain ⟨A9, c9, hv9⟩ := O3.out.opn
      subst hv9
      clear hlt HPOS
      go_wp2
      exact ⟨⟨.bin .and a b, k, d, hk, HL3.out, hmk, HT.out, O3.out, B.out, G.out⟩, HLT.out⟩
    · have hn : (nx s j c == some 38) = false := by simpa using hc
      rw [hn, if_neg (by decide)] at HK
      have HR := Lib.hid (HT.out _ _ _ (.andS hc))
      clear hc hn HT
      obtain ⟨A9, c9, hv9⟩ := O.out.opn
      subst hv9
      go_wp2_with fail
      refine HK.out.mono ?_
      rintro e w2 ⟨rfl, hB, hG⟩
      replace O := Lib.hid (keepG O.out hG ZG.out)
      replace G := Lib.hid (grG G.out hG)
      replace B := Lib.hid hB
      clear hB hG HK
      go_wp2
      go_ret
      exact ⟨_, a, j, c, rfl, HR.out, O.out, B.out, G.out⟩
set_option maxRecDepth 100000 in
set_option maxHeartbeats 4000000 in
theorem sR_or (s : ByteArray) (hs : s.size ≤ 1000) (n : Nat) (hp : ∀ i bad, mz s i bad ≤ n → RdC 48 45 s .and i bad) : ∀ i bad, mz s i bad ≤ n → RdC 37 45 s .or i bad := by
  intro i bad hm g W h hi
  have HP := Lib.hid hp
  have HB := Lib.hid h
  have ZG : Hid (g < W.heap.size) := Lib.hid h.lt
  have HF := Lib.hid (hp i bad hm g W h hi)
  clear hp h
  go_enter Try.func37, Try.ntmps37
  go_wp2_with fail
  refine HF.out.mono ?_
  rintro e w1 ⟨u, a, j, c, rfl, hR, ho, hB, hG⟩
  have hj := hR.len.2.1 hi
  have hij := hR.len.1
  have hL : (enc a).length ≤ 1 + 3 * j := by have := hR.len1 rfl; omega
  have hmj : mz s j c ≤ n := Nat.le_trans hR.mz hm
  have HT : ∀ o k d, Rdf s .orT a j c o k d → Rdf s .or .fls i bad o k d := fun o k d t => .or hR t
  have O := Lib.hid ho
  have B := Lib.hid hB
  have G := Lib.hid hG
  replace HT := Lib.hid HT
  clear ho hB hG hR HF HB
  go_wp2
  go_loopw [3] (fun u wr => ∃ (a : Fm) (j : Nat) (c : Bool), j ≤ s.size ∧ (enc a).length ≤ 1 + 3 * j ∧ mz s j c ≤ n ∧ (∀ o k d, Rdf s .orT a j c o k d → Rdf s .or .fls i bad o k d) ∧ Ow cN 48 W.heap.size wr u (enc a) ∧ Blk wr g 45 #[.string s, .int .i64 (j : Int), .bool c] ∧ W.grownBy wr (some g)) (fun _ wr => s.size - posN (wr.cell? ⟨g, 1, none⟩))
  case atStart => exact ⟨a, j, c, hj, hL, hmj, HT.out, O.out, B.out, G.out⟩
  case round =>
    clear hj hL hmj HT O B G hij hm
    obtain ⟨a, j, c, hj, hL, hmj, HT, O, B, G⟩ := hrel
    replace HT := Lib.hid HT
    replace O := Lib.hid O
    replace B := Lib.hid B
    replace G := Lib.hid G
    have HK := Lib.hid (sp_take s g j 124 c wr B.out hj hs)
    by_cases hc : nx s j c = some 124
    · have hn : (nx s j c == some 124) = true := by simpa using hc
      rw [hn, if_pos rfl] at HK
      have hm1 := nx_mz hc hmj
      have hj1 := (nx_lt hc).1
      have HTC := Lib.hid (fun b k d hb o k' d' t => HT.out o k' d' (.orC hc (b := b) (j := k) (c := d) hb t))
      have hpos : posN (wr.cell? ⟨g, 1, none⟩) = j := by rw [B.out.cell 1]; simp [posN]
      have HPOS := Lib.hid hpos
      clear hc hn HT hpos
      go_wp2_with fail
      refine HK.out.mono ?_
      rintro e w2 ⟨rfl, hB, hG⟩
      replace O := Lib.hid (keepG O.out hG ZG.out)
      replace G := Lib.hid (grG G.out hG)
      have HF := Lib.hid (HP.out (j + 1) c (by omega) g w2 hB hj1)
      clear hB hG HK B
      go_wp2_with fail
      refine HF.out.mono ?_
      rintro e w3 ⟨u2, b, k, d, rfl, hR, ho, hB, hG⟩
      have hk := hR.len.2.1 hj1
      have hjk := hR.len.1
      have hLb := hR.len1 rfl
      have hmk : mz s k d ≤ n := by have := hR.mz; omega
      have hT2 := HTC.out b k d hR
      replace O := Lib.hid (keepG O.out hG ZG.out)
      have ZW : W.heap.size ≤ w2.heap.size := G.out.size
      replace G := Lib.hid (grG G.out hG)
      have O2 := Lib.hid (ho.mono ZW)
      have B := Lib.hid hB
      have HT := Lib.hid hT2
      clear ho hB hG hR HF HTC hT2
      have hl1 : (enc a).length ≤ 4000 := by omega
      have hl2 : (enc b).length ≤ 4000 := by omega
      go_wp2_with fail
      refine (spec_l02Pair 3 _ _ (enc a) (enc b) _ O.out.sl O2.out.sl (by have := hl1; omega) (by have := hl2; omega)).mono ?_
      rintro e w4 ⟨r, rfl, ho, hb⟩
      have ZW3 : W.heap.size ≤ w3.heap.size := G.out.size
      have O3 : Hid (Ow cN 48 W.heap.size w4 r (enc (.bin .or a b))) := Lib.hid (by have := ho.mono ZW3; simpa [enc, BK.i] using this)
      have hL3 : (enc (.bin .or a b)).length ≤ 1 + 3 * k := by simp only [enc, List.length_cons, List.length_append]; omega
      replace B := Lib.hid (B.out.below hb B.out.lt)
      replace G := Lib.hid (grB G.out hb)
      have HL3 := Lib.hid hL3
      clear ho hb O O2 hL3 ZW3 ZW
      have hlt : s.size - posN (w4.cell? ⟨g, 1, none⟩) < s.size - posN (wr.cell? ⟨g, 1, none⟩) := by
        rw [HPOS.out, B.out.cell 1]
        simp [posN]
        omega
      have HLT := Lib.hid hlt
      obtain ⟨A9, c9, hv9⟩ := O3.out.opn
      subst hv9
      clear hlt HPOS
      go_wp2
      exact ⟨⟨.bin .or a b, k, d, hk, HL3.out, hmk, HT.out, O3.out, B.out, G.out⟩, HLT.out⟩
    · have hn : (nx s j c == some 124) = false := by simpa using hc
      rw [hn, if_neg (by decide)] at HK
      have HR := Lib.hid (HT.out _ _ _ (.orS hc))
      clear hc hn HT
      obtain ⟨A9, c9, hv9⟩ := O.out.opn
      subst hv9
      go_wp2_with fail
      refine HK.out.mono ?_
      rintro e w2 ⟨rfl, hB, hG⟩
      replace O := Lib.hid (keepG O.out hG ZG.out)
      replace G := Lib.hid (grG G.out hG)
      replace B := Lib.hid hB
      clear hB hG HK
      go_wp2
      go_ret
      exact ⟨_, a, j, c, rfl, HR.out, O.out, B.out, G.out⟩
set_option maxRecDepth 100000 in
set_option maxHeartbeats 4000000 in
theorem sR_imp (s : ByteArray) (hs : s.size ≤ 1000) (n : Nat) (hp : ∀ i bad, mz s i bad ≤ n → RdC 37 45 s .or i bad) (hq : ∀ i bad, mz s i bad < n → RdC 25 45 s .imp i bad) : ∀ i bad, mz s i bad ≤ n → RdC 25 45 s .imp i bad := by
  intro i bad hm g W h hi
  have HQ := Lib.hid hq
  have ZG : Hid (g < W.heap.size) := Lib.hid h.lt
  have HF := Lib.hid (hp i bad hm g W h hi)
  clear hp hq h
  go_enter Try.func25, Try.ntmps25
  go_wp2_with fail
  refine HF.out.mono ?_
  rintro e w1 ⟨u, a, j, c, rfl, hR, ho, hB, hG⟩
  have hj := hR.len.2.1 hi
  have hij := hR.len.1
  have hL := hR.len1 rfl
  have hmj : mz s j c ≤ n := Nat.le_trans hR.mz hm
  have HR := Lib.hid hR
  have O := Lib.hid ho
  have G := Lib.hid hG
  have HK := Lib.hid (sp_take s g j 62 c w1 hB hj hs)
  clear ho hB hG hR HF
  by_cases hc : nx s j c = some 62
  · have hn : (nx s j c == some 62) = true := by simpa using hc
    rw [hn, if_pos rfl] at HK
    have hm1 := nx_mz hc hmj
    have hj1 := (nx_lt hc).1
    have HRC := Lib.hid (fun b k d hb => Rdf.impC (x := .fls) HR.out hc (b := b) (k := k) (d := d) hb)
    clear hc hn
    go_wp2_with fail
    refine HK.out.mono ?_
    rintro e w2 ⟨rfl, hB, hG⟩
    replace O := Lib.hid (keepG O.out hG ZG.out)
    replace G := Lib.hid (grG G.out hG)
    have HF := Lib.hid (HQ.out (j + 1) c hm1 g w2 hB hj1)
    clear hB hG HK
    go_wp2_with fail
    refine HF.out.mono ?_
    rintro e w3 ⟨u2, b, k, d, rfl, hR, ho, hB, hG⟩
    have hk := hR.len.2.1 hj1
    have hjk := hR.len.1
    have hLb := hR.len1 rfl
    have hT2 := HRC.out b k d hR
    replace O := Lib.hid (keepG O.out hG ZG.out)
    have ZW : W.heap.size ≤ w2.heap.size := G.out.size
    replace G := Lib.hid (grG G.out hG)
    have O2 := Lib.hid (ho.mono ZW)
    have B := Lib.hid hB
    have HT := Lib.hid hT2
    clear ho hB hG hR HF HRC hT2 HR
    have hl1 : (enc a).length ≤ 4000 := by omega
    have hl2 : (enc b).length ≤ 4000 := by omega
    go_wp2_with fail
    refine (spec_l02Pair 4 _ _ (enc a) (enc b) _ O.out.sl O2.out.sl (by have := hl1; omega) (by have := hl2; omega)).mono ?_
    rintro e w4 ⟨r, rfl, ho, hb⟩
    have ZW3 : W.heap.size ≤ w3.heap.size := G.out.size
    have O3 : Hid (Ow cN 48 W.heap.size w4 r (enc (.bin .imp a b))) := Lib.hid (by have := ho.mono ZW3; simpa [enc, BK.i] using this)
    replace B := Lib.hid (B.out.below hb B.out.lt)
    replace G := Lib.hid (grB G.out hb)
    clear ho hb O O2 ZW3 ZW
    obtain ⟨A9, c9, hv9⟩ := O3.out.opn
    subst hv9
    go_wp2
    go_ret
    exact ⟨_, .bin .imp a b, k, d, rfl, HT.out, O3.out, B.out, G.out⟩
  · have hn : (nx s j c == some 62) = false := by simpa using hc
    rw [hn, if_neg (by decide)] at HK
    replace HR := Lib.hid (Rdf.impS (x := .fls) HR.out hc)
    clear hc hn
    obtain ⟨A9, c9, hv9⟩ := O.out.opn
    subst hv9
    go_wp2_with fail
    refine HK.out.mono ?_
    rintro e w2 ⟨rfl, hB, hG⟩
    replace O := Lib.hid (keepG O.out hG ZG.out)
    replace G := Lib.hid (grG G.out hG)
    have B := Lib.hid hB
    clear hB hG HK
    go_wp2
    go_ret
    exact ⟨_, a, j, c, rfl, HR.out, O.out, B.out, G.out⟩
theorem spec_l02VarR (k : Int) (w : World) : Calls Try.prog 56 #[.int .i64 k] w fun e w' => ∃ u, e = .returned u ∧ Ow cN 48 w.heap.size w' u [(0, k)] ∧ Below w.heap.size w w' := by
  go_enter Try.func56, Try.ntmps56
  go_wp2
  go_ret
  exact ⟨_, rfl, Ow.lit [(0, k)] rfl rfl (Nat.le_refl _), (Below.refl _ _).alloc (Nat.le_refl _) _⟩
set_option maxRecDepth 100000 in
set_option maxHeartbeats 4000000 in
theorem sR_pre (s : ByteArray) (hs : s.size ≤ 1000) (n : Nat) (hp : ∀ i bad, mz s i bad < n → RdC 53 45 s .pre i bad) (hq : ∀ i bad, mz s i bad < n → RdC 25 45 s .imp i bad) : ∀ i bad, mz s i bad ≤ n → RdC 53 45 s .pre i bad := by
  intro i bad hm g W h hi
  have HP := Lib.hid hp
  have HQ := Lib.hid hq
  have B := Lib.hid h
  have ZG : Hid (g < W.heap.size) := Lib.hid h.lt
  have Gr := Lib.hid (World.grownBy.refl W (some g))
  clear hp hq h
  go_enter Try.func53, Try.ntmps53
  go_wp2
  go_loopw [4] (fun x wr => ∃ v : Nat, x = .int .i64 (v : Int) ∧ v ≤ 6 ∧ (∀ u, u < v → nx s i bad ≠ some (112 + u)) ∧ Blk wr g 45 #[.string s, .int .i64 (i : Int), .bool bad] ∧ W.grownBy wr (some g)) (fun x _ => 6 - (intOf x).toNat)
  case atStart => exact ⟨0, rfl, by omega, fun u h => by omega, B.out, Gr.out⟩
  case round =>
    clear B Gr
    obtain ⟨v, rfl, hv, hnv, B, Gr⟩ := hrel
    replace B := Lib.hid B
    replace Gr := Lib.hid Gr
    replace hnv := Lib.hid hnv
    by_cases hv6 : v < 6
    · skip
      have h6 : v = 0 ∨ v = 1 ∨ v = 2 ∨ v = 3 ∨ v = 4 ∨ v = 5 := by omega
      rcases h6 with rfl | rfl | rfl | rfl | rfl | rfl
      · by_cases hc : nx s i bad = some 112
        · skip
          have HK := Lib.hid (sp_take s g i 112 bad _ B.out hi hs)
          rw [show (nx s i bad == some 112) = true by simpa using hc, if_pos rfl] at HK
          go_wp2_with fail
          refine HK.out.mono ?_
          rintro e w1 ⟨rfl, hB, hG⟩
          replace Gr := Lib.hid (grG Gr.out hG)
          replace B := Lib.hid hB
          clear hB hG HK
          go_wp2_with fail
          refine (spec_l02VarR 0 _).mono ?_
          rintro e w2 ⟨u, rfl, ho, hb⟩
          have ZW : W.heap.size ≤ _ := Gr.out.size
          have O : Hid (Ow cN 48 W.heap.size w2 u (enc (.var 0))) := Lib.hid (ho.mono ZW)
          replace B := Lib.hid (B.out.below hb B.out.lt)
          replace Gr := Lib.hid (grB Gr.out hb)
          clear ho hb ZW
          go_wp2
          go_ret
          exact ⟨_, .var 0, _, _, rfl, .var hc (by decide), O.out, B.out, Gr.out⟩
        · have hn112 : Hid ((nx s i bad == some 112) = false) := Lib.hid (by simpa using hc)
          have HNV : Hid (∀ u, u < 0 + 1 → nx s i bad ≠ some (112 + u)) := Lib.hid (fun u hu => by rcases Nat.lt_or_ge u 0 with h | h; exact hnv.out u h; obtain rfl : u = 0 := (by omega); exact hc)
          clear hc
          have HK := Lib.hid (sp_take s g i 112 bad _ B.out hi hs)
          rw [hn112.out, if_neg (by decide)] at HK
          go_wp2_with fail
          refine HK.out.mono ?_
          rintro e w1 ⟨rfl, hB, hG⟩
          replace Gr := Lib.hid (grG Gr.out hG)
          replace B := Lib.hid hB
          clear hB hG HK
          go_wp2
          exact ⟨⟨0 + 1, by go_num, by omega, HNV.out, B.out, Gr.out⟩, by simp [intOf]⟩
      · by_cases hc : nx s i bad = some 113
        · skip
          have HK := Lib.hid (sp_take s g i 113 bad _ B.out hi hs)
          rw [show (nx s i bad == some 113) = true by simpa using hc, if_pos rfl] at HK
          go_wp2_with fail
          refine HK.out.mono ?_
          rintro e w1 ⟨rfl, hB, hG⟩
          replace Gr := Lib.hid (grG Gr.out hG)
          replace B := Lib.hid hB
          clear hB hG HK
          go_wp2_with fail
          refine (spec_l02VarR 1 _).mono ?_
          rintro e w2 ⟨u, rfl, ho, hb⟩
          have ZW : W.heap.size ≤ _ := Gr.out.size
          have O : Hid (Ow cN 48 W.heap.size w2 u (enc (.var 1))) := Lib.hid (ho.mono ZW)
          replace B := Lib.hid (B.out.below hb B.out.lt)
          replace Gr := Lib.hid (grB Gr.out hb)
          clear ho hb ZW
          go_wp2
          go_ret
          exact ⟨_, .var 1, _, _, rfl, .var hc (by decide), O.out, B.out, Gr.out⟩
        · have hn113 : Hid ((nx s i bad == some 113) = false) := Lib.hid (by simpa using hc)
          have HNV : Hid (∀ u, u < 1 + 1 → nx s i bad ≠ some (112 + u)) := Lib.hid (fun u hu => by rcases Nat.lt_or_ge u 1 with h | h; exact hnv.out u h; obtain rfl : u = 1 := (by omega); exact hc)
          clear hc
          have HK := Lib.hid (sp_take s g i 113 bad _ B.out hi hs)
          rw [hn113.out, if_neg (by decide)] at HK
          go_wp2_with fail
          refine HK.out.mono ?_
          rintro e w1 ⟨rfl, hB, hG⟩
          replace Gr := Lib.hid (grG Gr.out hG)
          replace B := Lib.hid hB
          clear hB hG HK
          go_wp2
          exact ⟨⟨1 + 1, by go_num, by omega, HNV.out, B.out, Gr.out⟩, by simp [intOf]⟩
      · by_cases hc : nx s i bad = some 114
        · skip
          have HK := Lib.hid (sp_take s g i 114 bad _ B.out hi hs)
          rw [show (nx s i bad == some 114) = true by simpa using hc, if_pos rfl] at HK
          go_wp2_with fail
          refine HK.out.mono ?_
          rintro e w1 ⟨rfl, hB, hG⟩
          replace Gr := Lib.hid (grG Gr.out hG)
          replace B := Lib.hid hB
          clear hB hG HK
          go_wp2_with fail
          refine (spec_l02VarR 2 _).mono ?_
          rintro e w2 ⟨u, rfl, ho, hb⟩
          have ZW : W.heap.size ≤ _ := Gr.out.size
          have O : Hid (Ow cN 48 W.heap.size w2 u (enc (.var 2))) := Lib.hid (ho.mono ZW)
          replace B := Lib.hid (B.out.below hb B.out.lt)
          replace Gr := Lib.hid (grB Gr.out hb)
          clear ho hb ZW
          go_wp2
          go_ret
          exact ⟨_, .var 2, _, _, rfl, .var hc (by decide), O.out, B.out, Gr.out⟩
        · have hn114 : Hid ((nx s i bad == some 114) = false) := Lib.hid (by simpa using hc)
          have HNV : Hid (∀ u, u < 2 + 1 → nx s i bad ≠ some (112 + u)) := Lib.hid (fun u hu => by rcases Nat.lt_or_ge u 2 with h | h; exact hnv.out u h; obtain rfl : u = 2 := (by omega); exact hc)
          clear hc
          have HK := Lib.hid (sp_take s g i 114 bad _ B.out hi hs)
          rw [hn114.out, if_neg (by decide)] at HK
          go_wp2_with fail
          refine HK.out.mono ?_
          rintro e w1 ⟨rfl, hB, hG⟩
          replace Gr := Lib.hid (grG Gr.out hG)
          replace B := Lib.hid hB
          clear hB hG HK
          go_wp2
          exact ⟨⟨2 + 1, by go_num, by omega, HNV.out, B.out, Gr.out⟩, by simp [intOf]⟩
      · by_cases hc : nx s i bad = some 115
        · skip
          have HK := Lib.hid (sp_take s g i 115 bad _ B.out hi hs)
          rw [show (nx s i bad == some 115) = true by simpa using hc, if_pos rfl] at HK
          go_wp2_with fail
          refine HK.out.mono ?_
          rintro e w1 ⟨rfl, hB, hG⟩
          replace Gr := Lib.hid (grG Gr.out hG)
          replace B := Lib.hid hB
          clear hB hG HK
          go_wp2_with fail
          refine (spec_l02VarR 3 _).mono ?_
          rintro e w2 ⟨u, rfl, ho, hb⟩
          have ZW : W.heap.size ≤ _ := Gr.out.size
          have O : Hid (Ow cN 48 W.heap.size w2 u (enc (.var 3))) := Lib.hid (ho.mono ZW)
          replace B := Lib.hid (B.out.below hb B.out.lt)
          replace Gr := Lib.hid (grB Gr.out hb)
          clear ho hb ZW
          go_wp2
          go_ret
          exact ⟨_, .var 3, _, _, rfl, .var hc (by decide), O.out, B.out, Gr.out⟩
        · have hn115 : Hid ((nx s i bad == some 115) = false) := Lib.hid (by simpa using hc)
          have HNV : Hid (∀ u, u < 3 + 1 → nx s i bad ≠ some (112 + u)) := Lib.hid (fun u hu => by rcases Nat.lt_or_ge u 3 with h | h; exact hnv.out u h; obtain rfl : u = 3 := (by omega); exact hc)
          clear hc
          have HK := Lib.hid (sp_take s g i 115 bad _ B.out hi hs)
          rw [hn115.out, if_neg (by decide)] at HK
          go_wp2_with fail
          refine HK.out.mono ?_
          rintro e w1 ⟨rfl, hB, hG⟩
          replace Gr := Lib.hid (grG Gr.out hG)
          replace B := Lib.hid hB
          clear hB hG HK
          go_wp2
          exact ⟨⟨3 + 1, by go_num, by omega, HNV.out, B.out, Gr.out⟩, by simp [intOf]⟩
      · by_cases hc : nx s i bad = some 116
        · skip
          have HK := Lib.hid (sp_take s g i 116 bad _ B.out hi hs)
          rw [show (nx s i bad == some 116) = true by simpa using hc, if_pos rfl] at HK
          go_wp2_with fail
          refine HK.out.mono ?_
          rintro e w1 ⟨rfl, hB, hG⟩
          replace Gr := Lib.hid (grG Gr.out hG)
          replace B := Lib.hid hB
          clear hB hG HK
          go_wp2_with fail
          refine (spec_l02VarR 4 _).mono ?_
          rintro e w2 ⟨u, rfl, ho, hb⟩
          have ZW : W.heap.size ≤ _ := Gr.out.size
          have O : Hid (Ow cN 48 W.heap.size w2 u (enc (.var 4))) := Lib.hid (ho.mono ZW)
          replace B := Lib.hid (B.out.below hb B.out.lt)
          replace Gr := Lib.hid (grB Gr.out hb)
          clear ho hb ZW
          go_wp2
          go_ret
          exact ⟨_, .var 4, _, _, rfl, .var hc (by decide), O.out, B.out, Gr.out⟩
        · have hn116 : Hid ((nx s i bad == some 116) = false) := Lib.hid (by simpa using hc)
          have HNV : Hid (∀ u, u < 4 + 1 → nx s i bad ≠ some (112 + u)) := Lib.hid (fun u hu => by rcases Nat.lt_or_ge u 4 with h | h; exact hnv.out u h; obtain rfl : u = 4 := (by omega); exact hc)
          clear hc
          have HK := Lib.hid (sp_take s g i 116 bad _ B.out hi hs)
          rw [hn116.out, if_neg (by decide)] at HK
          go_wp2_with fail
          refine HK.out.mono ?_
          rintro e w1 ⟨rfl, hB, hG⟩
          replace Gr := Lib.hid (grG Gr.out hG)
          replace B := Lib.hid hB
          clear hB hG HK
          go_wp2
          exact ⟨⟨4 + 1, by go_num, by omega, HNV.out, B.out, Gr.out⟩, by simp [intOf]⟩
      · by_cases hc : nx s i bad = some 117
        · skip
          have HK := Lib.hid (sp_take s g i 117 bad _ B.out hi hs)
          rw [show (nx s i bad == some 117) = true by simpa using hc, if_pos rfl] at HK
          go_wp2_with fail
          refine HK.out.mono ?_
          rintro e w1 ⟨rfl, hB, hG⟩
          replace Gr := Lib.hid (grG Gr.out hG)
          replace B := Lib.hid hB
          clear hB hG HK
          go_wp2_with fail
          refine (spec_l02VarR 5 _).mono ?_
          rintro e w2 ⟨u, rfl, ho, hb⟩
          have ZW : W.heap.size ≤ _ := Gr.out.size
          have O : Hid (Ow cN 48 W.heap.size w2 u (enc (.var 5))) := Lib.hid (ho.mono ZW)
          replace B := Lib.hid (B.out.below hb B.out.lt)
          replace Gr := Lib.hid (grB Gr.out hb)
          clear ho hb ZW
          go_wp2
          go_ret
          exact ⟨_, .var 5, _, _, rfl, .var hc (by decide), O.out, B.out, Gr.out⟩
        · have hn117 : Hid ((nx s i bad == some 117) = false) := Lib.hid (by simpa using hc)
          have HNV : Hid (∀ u, u < 5 + 1 → nx s i bad ≠ some (112 + u)) := Lib.hid (fun u hu => by rcases Nat.lt_or_ge u 5 with h | h; exact hnv.out u h; obtain rfl : u = 5 := (by omega); exact hc)
          clear hc
          have HK := Lib.hid (sp_take s g i 117 bad _ B.out hi hs)
          rw [hn117.out, if_neg (by decide)] at HK
          go_wp2_with fail
          refine HK.out.mono ?_
          rintro e w1 ⟨rfl, hB, hG⟩
          replace Gr := Lib.hid (grG Gr.out hG)
          replace B := Lib.hid hB
          clear hB hG HK
          go_wp2
          exact ⟨⟨5 + 1, by go_num, by omega, HNV.out, B.out, Gr.out⟩, by simp [intOf]⟩
    · obtain rfl : v = 6 := by omega
      clear hv hv6
      by_cases hc : nx s i bad = some 70
      · skip
        have HK := Lib.hid (sp_take s g i 70 bad _ B.out hi hs)
        rw [show (nx s i bad == some 70) = true by simpa using hc, if_pos rfl] at HK
        go_wp2_with fail
        refine HK.out.mono ?_
        rintro e w1 ⟨rfl, hB, hG⟩
        replace Gr := Lib.hid (grG Gr.out hG)
        replace B := Lib.hid hB
        clear hB hG HK
        go_wp2_with fail
        refine (spec_l02False _).mono ?_
        rintro e w2 ⟨u, rfl, ho, hb⟩
        have ZW : W.heap.size ≤ _ := Gr.out.size
        have O : Hid (Ow cN 48 W.heap.size w2 u (enc (.fls))) := Lib.hid (ho.mono ZW)
        replace B := Lib.hid (B.out.below hb B.out.lt)
        replace Gr := Lib.hid (grB Gr.out hb)
        clear ho hb ZW
        go_wp2
        go_ret
        exact ⟨_, .fls, _, _, rfl, .fls hc, O.out, B.out, Gr.out⟩
      · have hn70 : Hid ((nx s i bad == some 70) = false) := Lib.hid (by simpa using hc)
        clear hc
        have HK := Lib.hid (sp_take s g i 70 bad _ B.out hi hs)
        rw [hn70.out, if_neg (by decide)] at HK
        go_wp2_with fail
        refine HK.out.mono ?_
        rintro e w1 ⟨rfl, hB, hG⟩
        replace Gr := Lib.hid (grG Gr.out hG)
        replace B := Lib.hid hB
        clear hB hG HK
        by_cases hc : nx s i bad = some 84
        · skip
          have HK := Lib.hid (sp_take s g i 84 bad _ B.out hi hs)
          rw [show (nx s i bad == some 84) = true by simpa using hc, if_pos rfl] at HK
          go_wp2_with fail
          refine HK.out.mono ?_
          rintro e w2 ⟨rfl, hB, hG⟩
          replace Gr := Lib.hid (grG Gr.out hG)
          replace B := Lib.hid hB
          clear hB hG HK
          go_wp2_with fail
          refine (spec_l02True _).mono ?_
          rintro e w3 ⟨u, rfl, ho, hb⟩
          have ZW : W.heap.size ≤ _ := Gr.out.size
          have O : Hid (Ow cN 48 W.heap.size w3 u (enc (.bin .imp .fls .fls))) := Lib.hid (ho.mono ZW)
          replace B := Lib.hid (B.out.below hb B.out.lt)
          replace Gr := Lib.hid (grB Gr.out hb)
          clear ho hb ZW
          go_wp2
          go_ret
          exact ⟨_, .bin .imp .fls .fls, _, _, rfl, .tru hc, O.out, B.out, Gr.out⟩
        · have hn84 : Hid ((nx s i bad == some 84) = false) := Lib.hid (by simpa using hc)
          clear hc
          have HK := Lib.hid (sp_take s g i 84 bad _ B.out hi hs)
          rw [hn84.out, if_neg (by decide)] at HK
          go_wp2_with fail
          refine HK.out.mono ?_
          rintro e w2 ⟨rfl, hB, hG⟩
          replace Gr := Lib.hid (grG Gr.out hG)
          replace B := Lib.hid hB
          clear hB hG HK
          by_cases hc : nx s i bad = some 126
          · skip
            have hm1 := nx_mz hc hm
            have hi1 := (nx_lt hc).1
            have HK := Lib.hid (sp_take s g i 126 bad _ B.out hi hs)
            rw [show (nx s i bad == some 126) = true by simpa using hc, if_pos rfl] at HK
            go_wp2_with fail
            refine HK.out.mono ?_
            rintro e w3 ⟨rfl, hB, hG⟩
            replace Gr := Lib.hid (grG Gr.out hG)
            replace B := Lib.hid hB
            clear hB hG HK
            have HF := Lib.hid (HP.out (i + 1) bad hm1 g _ B.out hi1)
            have ZW : W.heap.size ≤ _ := Gr.out.size
            go_wp2_with fail
            refine HF.out.mono ?_
            rintro e w4 ⟨u, a, j, c, rfl, hR, ho, hB, hG⟩
            have hL := hR.len1 rfl
            have hjs := hR.len.2.1 hi1
            have HR := Lib.hid hR
            have O := Lib.hid (ho.mono ZW)
            replace Gr := Lib.hid (grG Gr.out hG)
            replace B := Lib.hid hB
            clear hB hG HF ho hR ZW
            have ZW : W.heap.size ≤ _ := Gr.out.size
            have hl1 : (enc a).length ≤ 4000 := by omega
            go_wp2_with fail
            refine (spec_l02Not _ (enc a) _ O.out.sl (by omega)).mono ?_
            rintro e w5 ⟨r, rfl, ho, hb⟩
            have O3 : Hid (Ow cN 48 W.heap.size w5 r (enc (.bin .imp a .fls))) := Lib.hid (by have := ho.mono ZW; simpa [enc, BK.i, UK.i] using this)
            replace B := Lib.hid (B.out.below hb B.out.lt)
            replace Gr := Lib.hid (grB Gr.out hb)
            clear ho hb ZW O
            obtain ⟨A9, c9, hv9⟩ := O3.out.opn
            subst hv9
            go_wp2
            go_ret
            exact ⟨_, .bin .imp a .fls, _, _, rfl, .not hc HR.out, O3.out, B.out, Gr.out⟩
          · have hn126 : Hid ((nx s i bad == some 126) = false) := Lib.hid (by simpa using hc)
            clear hc
            have HK := Lib.hid (sp_take s g i 126 bad _ B.out hi hs)
            rw [hn126.out, if_neg (by decide)] at HK
            go_wp2_with fail
            refine HK.out.mono ?_
            rintro e w3 ⟨rfl, hB, hG⟩
            replace Gr := Lib.hid (grG Gr.out hG)
            replace B := Lib.hid hB
            clear hB hG HK
            by_cases hc : nx s i bad = some 91
            · skip
              have hm1 := nx_mz hc hm
              have hi1 := (nx_lt hc).1
              have HK := Lib.hid (sp_take s g i 91 bad _ B.out hi hs)
              rw [show (nx s i bad == some 91) = true by simpa using hc, if_pos rfl] at HK
              go_wp2_with fail
              refine HK.out.mono ?_
              rintro e w4 ⟨rfl, hB, hG⟩
              replace Gr := Lib.hid (grG Gr.out hG)
              replace B := Lib.hid hB
              clear hB hG HK
              have HK := Lib.hid (sp_need s g (i + 1) 93 bad _ B.out hi1 hs)
              go_wp2_with fail
              refine HK.out.mono ?_
              rintro e w5 ⟨rfl, hB, hG⟩
              replace Gr := Lib.hid (grG Gr.out hG)
              replace B := Lib.hid hB
              clear hB hG HK
              have hm2 := Nat.lt_of_le_of_lt (ned_mz s (i + 1) bad 93) hm1
              have hi2 := (ned_le s (i + 1) bad 93).2 hi1
              have HF := Lib.hid (HP.out _ _ hm2 g _ B.out hi2)
              have ZW : W.heap.size ≤ _ := Gr.out.size
              go_wp2_with fail
              refine HF.out.mono ?_
              rintro e w6 ⟨u, a, j, c, rfl, hR, ho, hB, hG⟩
              have hL := hR.len1 rfl
              have hjs := hR.len.2.1 hi2
              have HR := Lib.hid hR
              have O := Lib.hid (ho.mono ZW)
              replace Gr := Lib.hid (grG Gr.out hG)
              replace B := Lib.hid hB
              clear hB hG HF ho hR ZW
              have ZW : W.heap.size ≤ _ := Gr.out.size
              have hl1 : (enc a).length ≤ 4000 := by omega
              go_wp2_with fail
              refine (spec_l02Pre 5 _ (enc a) _ O.out.sl (by omega)).mono ?_
              rintro e w7 ⟨r, rfl, ho, hb⟩
              have O3 : Hid (Ow cN 48 W.heap.size w7 r (enc (.un .box a))) := Lib.hid (by have := ho.mono ZW; simpa [enc, BK.i, UK.i] using this)
              replace B := Lib.hid (B.out.below hb B.out.lt)
              replace Gr := Lib.hid (grB Gr.out hb)
              clear ho hb ZW O
              obtain ⟨A9, c9, hv9⟩ := O3.out.opn
              subst hv9
              go_wp2
              go_ret
              exact ⟨_, .un .box a, _, _, rfl, .box hc HR.out, O3.out, B.out, Gr.out⟩
            · have hn91 : Hid ((nx s i bad == some 91) = false) := Lib.hid (by simpa using hc)
              clear hc
              have HK := Lib.hid (sp_take s g i 91 bad _ B.out hi hs)
              rw [hn91.out, if_neg (by decide)] at HK
              go_wp2_with fail
              refine HK.out.mono ?_
              rintro e w4 ⟨rfl, hB, hG⟩
              replace Gr := Lib.hid (grG Gr.out hG)
              replace B := Lib.hid hB
              clear hB hG HK
              by_cases hc : nx s i bad = some 60
              · skip
                have hm1 := nx_mz hc hm
                have hi1 := (nx_lt hc).1
                have HK := Lib.hid (sp_take s g i 60 bad _ B.out hi hs)
                rw [show (nx s i bad == some 60) = true by simpa using hc, if_pos rfl] at HK
                go_wp2_with fail
                refine HK.out.mono ?_
                rintro e w5 ⟨rfl, hB, hG⟩
                replace Gr := Lib.hid (grG Gr.out hG)
                replace B := Lib.hid hB
                clear hB hG HK
                have HK := Lib.hid (sp_need s g (i + 1) 62 bad _ B.out hi1 hs)
                go_wp2_with fail
                refine HK.out.mono ?_
                rintro e w6 ⟨rfl, hB, hG⟩
                replace Gr := Lib.hid (grG Gr.out hG)
                replace B := Lib.hid hB
                clear hB hG HK
                have hm2 := Nat.lt_of_le_of_lt (ned_mz s (i + 1) bad 62) hm1
                have hi2 := (ned_le s (i + 1) bad 62).2 hi1
                have HF := Lib.hid (HP.out _ _ hm2 g _ B.out hi2)
                have ZW : W.heap.size ≤ _ := Gr.out.size
                go_wp2_with fail
                refine HF.out.mono ?_
                rintro e w7 ⟨u, a, j, c, rfl, hR, ho, hB, hG⟩
                have hL := hR.len1 rfl
                have hjs := hR.len.2.1 hi2
                have HR := Lib.hid hR
                have O := Lib.hid (ho.mono ZW)
                replace Gr := Lib.hid (grG Gr.out hG)
                replace B := Lib.hid hB
                clear hB hG HF ho hR ZW
                have ZW : W.heap.size ≤ _ := Gr.out.size
                have hl1 : (enc a).length ≤ 4000 := by omega
                go_wp2_with fail
                refine (spec_l02Pre 6 _ (enc a) _ O.out.sl (by omega)).mono ?_
                rintro e w8 ⟨r, rfl, ho, hb⟩
                have O3 : Hid (Ow cN 48 W.heap.size w8 r (enc (.un .dia a))) := Lib.hid (by have := ho.mono ZW; simpa [enc, BK.i, UK.i] using this)
                replace B := Lib.hid (B.out.below hb B.out.lt)
                replace Gr := Lib.hid (grB Gr.out hb)
                clear ho hb ZW O
                obtain ⟨A9, c9, hv9⟩ := O3.out.opn
                subst hv9
                go_wp2
                go_ret
                exact ⟨_, .un .dia a, _, _, rfl, .dia hc HR.out, O3.out, B.out, Gr.out⟩
              · have hn60 : Hid ((nx s i bad == some 60) = false) := Lib.hid (by simpa using hc)
                clear hc
                have HK := Lib.hid (sp_take s g i 60 bad _ B.out hi hs)
                rw [hn60.out, if_neg (by decide)] at HK
                go_wp2_with fail
                refine HK.out.mono ?_
                rintro e w5 ⟨rfl, hB, hG⟩
                replace Gr := Lib.hid (grG Gr.out hG)
                replace B := Lib.hid hB
                clear hB hG HK
                by_cases hc : nx s i bad = some 40
                · skip
                  have hm1 := nx_mz hc hm
                  have hi1 := (nx_lt hc).1
                  have HK := Lib.hid (sp_take s g i 40 bad _ B.out hi hs)
                  rw [show (nx s i bad == some 40) = true by simpa using hc, if_pos rfl] at HK
                  go_wp2_with fail
                  refine HK.out.mono ?_
                  rintro e w6 ⟨rfl, hB, hG⟩
                  replace Gr := Lib.hid (grG Gr.out hG)
                  replace B := Lib.hid hB
                  clear hB hG HK
                  have HF := Lib.hid (HQ.out (i + 1) bad hm1 g _ B.out hi1)
                  have ZW : W.heap.size ≤ _ := Gr.out.size
                  go_wp2_with fail
                  refine HF.out.mono ?_
                  rintro e w7 ⟨u, a, j, c, rfl, hR, ho, hB, hG⟩
                  have hL := hR.len1 rfl
                  have hjs := hR.len.2.1 hi1
                  have HR := Lib.hid hR
                  have O := Lib.hid (ho.mono ZW)
                  replace Gr := Lib.hid (grG Gr.out hG)
                  replace B := Lib.hid hB
                  clear hB hG HF ho hR ZW
                  have HK := Lib.hid (sp_need s g j 41 c _ B.out hjs hs)
                  obtain ⟨A9, c9, hv9⟩ := O.out.opn
                  subst hv9
                  go_wp2_with fail
                  refine HK.out.mono ?_
                  rintro e w8 ⟨rfl, hB, hG⟩
                  replace O := Lib.hid (keepG O.out hG ZG.out)
                  replace Gr := Lib.hid (grG Gr.out hG)
                  replace B := Lib.hid hB
                  clear hB hG HK
                  go_wp2
                  go_ret
                  exact ⟨_, a, _, _, rfl, .par hc HR.out, O.out, B.out, Gr.out⟩
                · have hn40 : Hid ((nx s i bad == some 40) = false) := Lib.hid (by simpa using hc)
                  clear hc
                  have HK := Lib.hid (sp_take s g i 40 bad _ B.out hi hs)
                  rw [hn40.out, if_neg (by decide)] at HK
                  go_wp2_with fail
                  refine HK.out.mono ?_
                  rintro e w6 ⟨rfl, hB, hG⟩
                  replace Gr := Lib.hid (grG Gr.out hG)
                  replace B := Lib.hid hB
                  clear hB hG HK
                  have kb := B.out.cell
                  have fb := B.out.frozen
                  have lb := B.out.lt
                  have hb9 := B.out.set_ 2 (.bool true)
                  have hg9 := grown_set Gr.out rfl 2 (.bool true)
                  replace B := Lib.hid hb9
                  replace Gr := Lib.hid hg9
                  clear hb9 hg9
                  go_wp2_with fail
                  clear kb fb lb
                  refine (spec_l02False _).mono ?_
                  rintro e w7 ⟨u, rfl, ho, hb⟩
                  have ZW : W.heap.size ≤ _ := Gr.out.size
                  have O : Hid (Ow cN 48 W.heap.size w7 u (enc .fls)) := Lib.hid (ho.mono ZW)
                  replace B := Lib.hid (B.out.below hb B.out.lt)
                  replace Gr := Lib.hid (grB Gr.out hb)
                  clear ho hb ZW
                  go_wp2
                  go_ret
                  exact ⟨_, .fls, i, true, rfl, .non hnv.out (by have := hn70.out; simpa using this) (by have := hn84.out; simpa using this) (by have := hn126.out; simpa using this) (by have := hn91.out; simpa using this) (by have := hn60.out; simpa using this) (by have := hn40.out; simpa using this), O.out, B.out, Gr.out⟩
end Go.Proofs.Ytebpjcbgnagjeaa
