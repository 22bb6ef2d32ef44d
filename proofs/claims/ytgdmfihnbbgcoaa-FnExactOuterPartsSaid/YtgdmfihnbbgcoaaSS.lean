/- The laws' own functions on lists of strings in the one form. -/
import Derived.Test.YtgdmfihnbbgcoaaLB
import Derived.Test.YtgdmfihnbbgcoaaSch
import Derived.StillTailTactics
import Derived.WalkSpells
import Derived.WalkLawsBesides
import Derived.Lib.SlBytesConst
namespace Go.Proofs.Ytgdmfihnbbgcoaa
open Go.RowKit
set_option linter.unusedVariables false
set_option linter.unusedSimpArgs false
theorem ty_strL : Ty Try.prog 37 9 (.string ⟨#[]⟩) 1 16 := Ty.mk' Try.underlying37 (by kernel_rfl) rfl (by decide)
theorem Sl.atSS {w : World} {A : Option Addr} {n c : Nat} {xs : List ByteArray} (h : Sl cS w (.slice A n c) xs) {k : Nat} (hk : k < xs.length) :
    ∃ b o, A = some ⟨b, o, none⟩ ∧ b < w.heap.size ∧ w.cell? ⟨b, o + k, none⟩ = some (.string xs[k]) := by
  obtain ⟨b, o, hA, hb, hc⟩ := h.cell hk
  have := hc 0 (.string xs[k]) rfl
  exact ⟨b, o, hA, hb, by simpa [cS] using this⟩
def dgt (d : Nat) : ByteArray := ⟨#[UInt8.ofNat (48 + d)]⟩
def dgs : Nat → Nat → ByteArray → ByteArray
  | 0, _, acc => acc
  | fu + 1, n, acc => if n = 0 then acc else dgs fu (n / 10) (dgt (n % 10) ++ acc)
def mtx (k : Nat) : ByteArray := (⟨#[109]⟩ : ByteArray) ++ dgs k k ⟨#[]⟩
theorem dgs_step (fu n : Nat) (acc : ByteArray) (h : n ≠ 0) (hf : n ≤ fu) : ∃ fu', n / 10 ≤ fu' ∧ dgs fu n acc = dgs fu' (n / 10) (dgt (n % 10) ++ acc) := by
  cases fu with
  | zero => omega
  | succ fu => exact ⟨fu, by omega, by rw [dgs, if_neg h]⟩
theorem dgs_zero (fu : Nat) (acc : ByteArray) : dgs fu 0 acc = acc := by
  cases fu with
  | zero => rfl
  | succ fu => rw [dgs, if_pos rfl]
set_option maxRecDepth 100000 in
set_option maxHeartbeats 1600000 in
theorem law_markText (k : Nat) (w : World) (h0 : 0 < k) (hk : k ≤ 1073741824) :
    Calls Try.prog 68 #[.int .i64 k] w fun e w' => e = .returned (.string (mtx k)) ∧ Below w.heap.size w w' := by
  have HM : Hid (mtx k = (⟨#[109]⟩ : ByteArray) ++ dgs k k ⟨#[]⟩) := Lib.hid rfl
  generalize mtx k = M at *
  have h1 : decide ((k : Int) ≤ 0) = false := decide_eq_false (by omega)
  go_enter Try.func68, Try.ntmps68
  go_wp2
  go_loopw [0, 3] (fun q s wr => ∃ (n fu : Nat) (acc : ByteArray), n ≤ fu ∧ q = .int .i64 n ∧ s = .string acc ∧ acc.size + n ≤ k ∧ dgs fu n acc = dgs k k ⟨#[]⟩ ∧ Below w.heap.size w wr) (fun q _ _ => (intOf q).toNat)
  case atStart => exact ⟨k, k, _, Nat.le_refl _, rfl, rfl, by show 0 + k ≤ k; omega, rfl, Below.refl _ _⟩
  case round =>
    obtain ⟨n, fu, acc, hnf, rfl, rfl, hsz, hd, hb⟩ := hrel
    have HD := Lib.hid hd
    have HB := Lib.hid hb
    clear hd hb
    by_cases hn : 0 < n
    · have i1 : (n : Int) % 10 = ((n % 10 : Nat) : Int) := by omega
      have i2 : (n : Int) / 10 = ((n / 10 : Nat) : Int) := by omega
      have i3 : 0 ≤ (n : Int) := by omega
      have i4 : n % 10 < 10 := Nat.mod_lt _ (by decide)
      generalize hr : n % 10 = r at *
      have i6 : n / 10 < n := by omega
      generalize hq : n / 10 = m at *
      have hdg : (UInt8.ofNat (48 + r)).toNat = 48 + r := by
        rw [UInt8.toNat_ofNat']; omega
      have hcv := run_convert_bytes_back (P := Try.prog) (wr.alloc (.cells #[.int .u8 (48 + (r : Int))] 5)) 150 9 5 ⟨wr.heap.size, 0, none⟩ 1 [UInt8.ofNat (48 + r)] Try.underlying150 Try.underlying5 Try.underlying9 (by
        intro j hj
        obtain rfl : j = 0 := by simp at hj; omega
        rw [show ((⟨wr.heap.size, 0, none⟩ : Addr).add 0) = ⟨wr.heap.size, 0, none⟩ from rfl, World.cell?_alloc_mark]
        show some (Value.int .u8 (48 + (r : Int))) = some (.int .u8 ((UInt8.ofNat (48 + r)).toNat : Int))
        rw [hdg]
        rfl)
      have hcv1 : (convert 150 9 (.slice (some ⟨wr.heap.size, 0, none⟩) 1 1)).run Try.prog (wr.alloc (.cells #[.int .u8 (48 + (r : Int))] 5)) = .ok (.string (dgt r)) (wr.alloc (.cells #[.int .u8 (48 + (r : Int))] 5)) := hcv
      clear hcv hdg
      have hds : (dgt r).size = 1 := rfl
      have hss : ¬ (9223372036854775807 : Int) < ((dgt r).size : Int) + (acc.size : Int) := by rw [hds]; omega
      generalize hdr : dgt r = dr at *
      obtain ⟨fu', hf', hd'⟩ := dgs_step fu n acc (by omega) hnf
      rw [hq] at hf' hd'
      rw [hr, hdr] at hd'
      have HD' := Lib.hid hd'
      clear hd'
      go_wp2
      exact ⟨⟨m, fu', dr ++ acc, hf', rfl, rfl, by rw [ByteArray.size_append]; omega, by rw [← HD'.out]; exact HD.out, HB.out.alloc HB.out.size _⟩, by show (m : Int).toNat < (n : Int).toNat; omega⟩
    · obtain rfl : n = 0 := by omega
      rw [dgs_zero] at HD
      go_wp2
      go_ret; exact ⟨by rw [HM.out, ← HD.out]; rfl, HB.out⟩
theorem law_mtx (k : Int) (w : World) (hk : 1 ≤ k ∧ k ≤ 1073741824) :
    Calls Try.prog 68 #[.int .i64 k] w fun e w' => e = .returned (.string (mtx k.toNat)) ∧ Below w.heap.size w w' := by
  have h := law_markText k.toNat w (by omega) (by omega)
  rw [show ((k.toNat : Nat) : Int) = k by omega] at h
  exact h
/-- the marks of texts -/
def numT : Nat → Int → List ByteArray
  | 0, _ => []
  | n + 1, k => mtx k.toNat :: numT n (k + 1)
theorem numT_length (n : Nat) (k : Int) : (numT n k).length = n := by
  induction n generalizing k with
  | zero => rfl
  | succ n ih => simp [numT, ih]
theorem numT_snoc (n : Nat) (k : Int) : numT (n + 1) k = numT n k ++ [mtx (k + n).toNat] := by
  induction n generalizing k with
  | zero => simp [numT]
  | succ n ih =>
    rw [numT, ih (k + 1), numT, List.cons_append, show k + 1 + (n : Int) = k + ((n + 1 : Nat) : Int) by omega]
theorem numT_get (n : Nat) (k : Int) (j : Nat) (h : j < (numT n k).length) : (numT n k)[j] = mtx (k + j).toNat := by
  induction n generalizing k j with
  | zero => simp [numT] at h
  | succ n ih =>
    cases j with
    | zero => simp [numT]
    | succ j =>
      simp only [numT, List.getElem_cons_succ]
      rw [ih, show k + 1 + (j : Int) = k + ((j + 1 : Nat) : Int) by omega]
theorem set_numT (xs : List ByteArray) (k : Int) (j : Nat) (h : j < xs.length) : (numT j k ++ xs.drop j).set j (mtx (k + j).toNat) = numT (j + 1) k ++ xs.drop (j + 1) := by
  rw [List.set_append, if_neg (by rw [numT_length]; omega), numT_length, Nat.sub_self, List.drop_eq_getElem_cons h, List.set_cons_zero, numT_snoc]
  simp
set_option maxRecDepth 100000 in
theorem u_eq_SS (v u : Value) (xs : List ByteArray) (w : World) (hx : Sl cS w v xs) (hy : Sl cS w u xs) (hn : xs.length ≤ 268435456) :
    Calls Try.prog 22 #[v, u] w fun e w' => e = .returned (.bool true) ∧ Below w.heap.size w w' := by
  obtain ⟨A, c, rfl⟩ := hx.opn
  obtain ⟨B, d, rfl⟩ := hy.opn
  go_enter Try.func22, Try.ntmps22
  go_wp2
  go_loopw [5] (fun i wr => ∃ j : Nat, j ≤ xs.length ∧ i = .int .i64 j ∧ (∃ q, wr = w.drewN q)) (fun i _ => xs.length - (intOf i).toNat)
  case atStart => exact ⟨0, Nat.zero_le _, rfl, ⟨0, rfl⟩⟩
  case round =>
    obtain ⟨j, hj, rfl, ⟨q, rfl⟩⟩ := hrel
    by_cases hlt : j < xs.length
    · obtain ⟨b, o, rfl, hb, hcell⟩ := hx.atSS hlt
      obtain ⟨b', o', rfl, hb', hcell'⟩ := hy.atSS hlt
      have he' : (!(xs[j].toList == xs[j].toList)) = false := by simp
      generalize xs[j] = z at *
      go_wp2
      go_quiet (fail)
      go_wp2
      go_roundw
      case rel => exact ⟨j + 1, by omega, by go_num, by first | exact ⟨_, rfl⟩ | exact ⟨_, World.drewN_drewN _ _ _⟩⟩
      case measure => simp [intOf]; omega
    · obtain rfl : j = xs.length := by omega
      go_wp2
      go_ret
      exact ⟨rfl, below_drewN (Below.refl _ _) _⟩
set_option maxRecDepth 100000 in
theorem u_mark_SS (v : Value) (xs : List ByteArray) (k : Int) (B H : Nat) (w : World) (h : Ob cS 9 B H w v xs) (hl : xs.length ≤ 268435456) (hk : 1 ≤ k ∧ k ≤ 268435456) :
    Calls Try.prog 23 #[v, .int .i64 k] w fun e w' => e = .returned (.int .i64 (k + xs.length)) ∧ Ob cS 9 B H w' v (numT xs.length k) ∧ Keep B H w w' := by
  obtain ⟨A, c, rfl⟩ := h.opn
  have HB := Lib.hid h.2
  have ho1 : Ow cS 9 B w (.slice A xs.length c) xs := h.1
  clear h
  go_enter Try.func23, Try.ntmps23
  go_wp2
  go_loopw [1, 5] (fun q i wr => ∃ j : Nat, j ≤ xs.length ∧ i = .int .i64 j ∧ q = .int .i64 (k + j) ∧ Ow cS 9 B wr (.slice A xs.length c) (numT j k ++ xs.drop j) ∧ Keep B H w wr) (fun _ i _ => xs.length - (intOf i).toNat)
  case atStart => exact ⟨0, Nat.zero_le _, rfl, by simp, by simpa [numT] using ho1, Keep.of_below (Below.refl _ _)⟩
  case round =>
    obtain ⟨j, hj, rfl, rfl, ho, hg⟩ := hrel
    by_cases hlt : j < xs.length
    · have HC := Lib.hid (law_mtx (k + j) wr (by omega))
      have HO := Lib.hid ho
      have HG := Lib.hid hg
      clear ho hg ho1
      go_wp2_with fail
      refine HC.out.mono ?_
      rintro e w2 ⟨rfl, hb⟩
      have ho := HO.out.below hb
      have hg := HG.out.trans (Keep.of_below hb)
      clear hb
      obtain ⟨g, rfl, -, -⟩ := ho.head (by simp [numT_length]; omega)
      obtain ⟨hc1, hf1, hB1, hg1'⟩ := ho.at1 rfl (j := j) (by simp [numT_length]; omega) rfl
      obtain ⟨old, hc1'⟩ : ∃ old, w2.cell? ⟨g, j, none⟩ = some old := ⟨_, hc1⟩
      have hset := ho.set1 (j := j) (x := mtx (k + j).toNat) (u := .string (mtx (k + j).toNat)) rfl rfl (by simp [numT_length]; omega)
      rw [set_numT xs k j hlt] at hset
      have hgb := HB.out g rfl
      have hk3 : Keep B H w2 (w2.setCell ⟨g, j, none⟩ (.string (mtx (k + j).toNat))) :=
        Keep.of_grown (grown_set (World.grownBy.refl w2 (some g)) rfl j (.string (mtx (k + j).toNat))) fun i hi => by
          obtain rfl : g = i := by simpa using hi
          exact ⟨hB1, hgb⟩
      have HG2 := Lib.hid (hg.trans hk3)
      clear hk3
      have HS := Lib.hid hset
      clear ho hg hc1 hset hgb
      go_wp2
      go_roundw
      case rel => exact ⟨j + 1, by omega, by go_num, by go_num, HS.out, HG2.out⟩
      case measure => simp [intOf]; omega
    · obtain rfl : j = xs.length := by omega
      have ho2 : Ow cS 9 B wr (.slice A xs.length c) (numT xs.length k) := by simpa using ho
      clear ho
      go_wp2
      go_ret
      exact ⟨rfl, ⟨ho2, HB.out⟩, hg⟩
set_option maxRecDepth 100000 in
theorem u_held_SS (v : Value) (m : Nat) (k : Int) (w : World) (h : Sl cS w v (numT m k)) (hl : m ≤ 268435456) (hk : 1 ≤ k ∧ k ≤ 268435456) :
    Calls Try.prog 24 #[v, .int .i64 k] w fun e w' => e = .returned (.int .i64 (k + m)) ∧ Below w.heap.size w w' := by
  obtain ⟨A, c, rfl⟩ := h.opn
  rw [numT_length] at h ⊢
  go_enter Try.func24, Try.ntmps24
  go_wp2
  go_loopw [1, 5] (fun q i wr => ∃ j : Nat, j ≤ m ∧ i = .int .i64 j ∧ q = .int .i64 (k + j) ∧ Below w.heap.size w wr) (fun _ i _ => m - (intOf i).toNat)
  case atStart => exact ⟨0, Nat.zero_le _, rfl, by simp, Below.refl _ _⟩
  case round =>
    obtain ⟨j, hj, rfl, rfl, hb⟩ := hrel
    by_cases hlt : j < m
    · have h0 := h.below hb
      obtain ⟨b, o, rfl, hbl, hc0⟩ := h0.atSS (k := j) (by rw [numT_length]; exact hlt)
      rw [numT_get] at hc0
      have HC := Lib.hid (fun X => law_mtx (k + j) X (by omega))
      have hne : (!((mtx (k + j).toNat).toList == (mtx (k + j).toNat).toList)) = false := by simp
      have HB := Lib.hid hb
      generalize mtx (k + j).toNat = z at *
      clear h h0 hb
      go_wp2
      refine wp_region_sched (Below wr.heap.size wr) 7 [0, 1, 2, 3, 4, 6] [0, 1, 2, 3, 4, 5, 6] (by kernel_rfl) (by kernel_rfl) (Below.refl _ _).drew ?_
      repeat
        apply wpSched_q rfl rfl
        case h =>
          intro w' hI K hK
          have hc0' := (hI.cell (p := ⟨b, o + j, none⟩) hbl).trans hc0
          simp only [quietV, stillV]
          go_simp
          exact hK
        go_simp
      refine wpSched_r rfl rfl ?_ (Below.refl _ _).drew
      intro K hK _
      go_simp
      refine (HC.out _).mono ?_
      rintro e w2 ⟨rfl, hb⟩
      have hb2 : Below wr.heap.size wr w2 := (Below.refl _ _).drew.trans (hb.mono (Below.refl wr.heap.size wr).drew.size)
      refine hK _ _ hb2 ?_
      clear hK K hb
      repeat
        apply wpSched_q rfl rfl
        case h =>
          intro w' hI K hK
          have hc0' := (hI.cell (p := ⟨b, o + j, none⟩) hbl).trans hc0
          simp only [quietV, stillV]
          go_simp
          exact hK
        go_simp
      refine wpSched_nil ?_
      try simp only [List.drop_succ_cons, List.drop_zero, List.drop_nil]
      have HB2 := Lib.hid (bthen HB.out hb2)
      clear hb2 hc0
      go_wp2
      go_roundw
      case rel => exact ⟨j + 1, by omega, by go_num, by go_num, HB2.out⟩
      case measure => simp [intOf]; omega
    · obtain rfl : j = m := by omega
      go_wp2
      go_ret
      exact ⟨rfl, hb⟩
end Go.Proofs.Ytgdmfihnbbgcoaa
