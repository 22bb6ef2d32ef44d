/- Contracts of chapter 35: names and entries, of the program and of the reference. -/
import Derived.Test.Ytebpjcbgnagjeaa02S
import Derived.Lib.MapLaws
import Derived.Lib.DecodeN
import Derived.Lib.OthersKept
import Derived.Laws.RangeString
namespace Go.Proofs.Ytebpjcbgnagjeaa
open Go.RowKit
set_option linter.unusedVariables false
set_option linter.unusedSimpArgs false
/-- every byte is a small letter -/
def LW (s : ByteArray) : Prop := ∀ i (h : i < s.size), 97 ≤ s[i].toNat ∧ s[i].toNat ≤ 122
/-- a text is a name -/
def NM (s : ByteArray) : Prop := 1 ≤ s.size ∧ s.size ≤ 8 ∧ LW s
theorem rune_big {s : ByteArray} {i : Nat} (h : i < s.size) (hb : 128 ≤ s[i].toNat) : 128 ≤ (Utf8.decode s i).1 ∧ (Utf8.decode s i).1 ≤ 1114111 := by
  have e : s.get! i = s[i]'h := by
    simp [ByteArray.get!, getElem!_pos, h]
    rfl
  have hc := s[i].toNat_lt
  rw [Lib.decode_at, e]
  rcases Lib.decodeN_shape (s.size - i) s[i].toNat (s.get! (i + 1)).toNat (s.get! (i + 2)).toNat (s.get! (i + 3)).toNat with ⟨c, -⟩ | ⟨_, _, _, c, e⟩ | ⟨_, _, _, _, c, d, e⟩ | ⟨_, _, _, _, _, c, d, e⟩ | e
  · omega
  · rw [e]; simp only; omega
  · rw [e]; simp only; omega
  · rw [e]; simp only; omega
  · rw [e]; decide
set_option maxRecDepth 100000 in
theorem strings_indexFunc_n (s : ByteArray) (w : World) (hs : s.size ≤ 1048576) :
    Calls Try.prog 30 #[.string s, .func (.func 17) #[] #[], .bool true] w fun e w' => ∃ r : Int, e = .returned (.int .i64 r) ∧ (0 ≤ r ↔ ¬ LW s) ∧ Below w.heap.size w w' := by
  have hki : (World.iter w s 0).heap[w.heap.size]? = some (.stringIter s 0) := World.iter_heap _ _ _
  have hb : Below w.heap.size w (World.iter w s 0) := (Below.refl w.heap.size w).alloc (Nat.le_refl _) (.stringIter s 0)
  have HKI := Lib.hid hki
  have BB := Lib.hid hb
  clear hki hb
  go_enter Try.func30, Try.ntmps30
  go_upto_region 2 with fail
  generalize World.iter w s 0 = WI at *
  go_loopw [7] (fun x wr => ∃ v : Nat, v ≤ s.size ∧ wr.heap[w.heap.size]? = some (.stringIter s v) ∧ (∀ u (h : u < s.size), u < v → 97 ≤ s[u].toNat ∧ s[u].toNat ≤ 122) ∧ Below w.heap.size w wr) (fun _ wr => s.size - posI wr.heap[w.heap.size]?)
  case atStart => exact ⟨0, by omega, HKI.out, fun u _ h => by omega, BB.out⟩
  case round =>
    clear HKI BB
    obtain ⟨v, hv, hki, hlw, hb⟩ := hrel
    have BB := Lib.hid hb
    have HLW := Lib.hid hlw
    clear hb hlw
    by_cases hlt : v < s.size
    · have hpos : posI wr.heap[w.heap.size]? = v := by rw [hki]; rfl
      have HPOS := Lib.hid hpos
      clear hpos
      by_cases hc : 97 ≤ s[v].toNat ∧ s[v].toNat ≤ 122
      · have HC := Lib.hid hc
        obtain ⟨r, hr⟩ : ∃ r, s[v].toNat = r := ⟨_, rfl⟩
        have hnx : ∀ ty, (Instr.next (.pointer (some ⟨w.heap.size, 0, none⟩)) true ty).run Try.prog wr = .ok (.tuple #[.bool true, .int .i64 (v : Int), .int .i32 (r : Int)]) (wr.iterAt w.heap.size s (v + 1)) := fun ty => by rw [← hr]; exact Lib.run_next_ascii_at wr w.heap.size s v ty hki hlt (by omega)
        rw [hr] at hc
        obtain ⟨hc1, hc2⟩ := hc
        have HKI := Lib.hid (Lib.iterAt_heap wr w.heap.size s v (v + 1) hki)
        replace BB := Lib.hid (Lib.below_iterAt BB.out (Nat.le_refl _) s (v + 1))
        have HL2 : Hid (∀ u (h : u < s.size), u < v + 1 → 97 ≤ s[u].toNat ∧ s[u].toNat ≤ 122) := Lib.hid (fun u h hu => by rcases Nat.lt_or_ge u v with h1 | h1; exact HLW.out u h h1; obtain rfl : u = v := (by omega); exact HC.out)
        have HLT : Hid (s.size - posI (wr.iterAt w.heap.size s (v + 1)).heap[w.heap.size]? < s.size - posI wr.heap[w.heap.size]?) := Lib.hid (by rw [HPOS.out, HKI.out]; simp only [posI]; omega)
        clear hr
        go_upto_region 3 with fail
        clear hnx hki
        generalize World.iterAt wr w.heap.size s (v + 1) = wi at *
        go_wp2
        exact ⟨⟨v + 1, by omega, HKI.out, HL2.out, BB.out⟩, HLT.out⟩
      · obtain ⟨r, hr⟩ : ∃ r, (Utf8.decode s v).1 = r := ⟨_, rfl⟩
        have hrr : (r < 97 ∨ 122 < r) ∧ r ≤ 1114111 := by
          rw [← hr]
          rcases Nat.lt_or_ge s[v].toNat 128 with h | h
          · rw [decode_ascii s v hlt h]; simp only; omega
          · have := rune_big hlt h; omega
        have hnx : ∀ ty, (Instr.next (.pointer (some ⟨w.heap.size, 0, none⟩)) true ty).run Try.prog wr = .ok (.tuple #[.bool true, .int .i64 (v : Int), .int .i32 (r : Int)]) (wr.iterAt w.heap.size s (v + (Utf8.decode s v).2)) := fun ty => by rw [← hr]; exact Lib.run_next_any_at wr w.heap.size s v ty hki hlt
        have HN : Hid (¬ LW s) := Lib.hid (fun h => hc (h v hlt))
        replace BB := Lib.hid (Lib.below_iterAt BB.out (Nat.le_refl _) s (v + (Utf8.decode s v).2))
        clear hr hc
        obtain ⟨hr1 | hr1, hr2⟩ := hrr
        all_goals (go_upto_region 3 with fail)
        all_goals (clear hnx hki)
        all_goals (generalize World.iterAt wr w.heap.size s _ = wi at *)
        all_goals (go_wp2)
        all_goals (go_ret)
        all_goals (exact ⟨(v : Int), rfl, ⟨fun _ => HN.out, fun _ => by omega⟩, BB.out⟩)
    · obtain rfl : v = s.size := by omega
      have hnx : ∀ ty, (Instr.next (.pointer (some ⟨w.heap.size, 0, none⟩)) true ty).run Try.prog wr = .ok (.tuple #[.bool false]) wr := fun ty => Lib.run_next_end_at wr w.heap.size s s.size ty hki (by omega)
      clear hv hlt
      go_wp2
      go_ret
      exact ⟨-1, rfl, ⟨fun h => absurd h (by decide), fun h => absurd (fun i hi => HLW.out i hi hi) h⟩, BB.out⟩
theorem strings_IndexFunc_n (s : ByteArray) (w : World) (hs : s.size ≤ 1048576) :
    Calls Try.prog 22 #[.string s, .func (.func 17) #[] #[]] w fun e w' => ∃ r : Int, e = .returned (.int .i64 r) ∧ (0 ≤ r ↔ ¬ LW s) ∧ Below w.heap.size w w' := by
  have HF := Lib.hid (strings_indexFunc_n s w hs)
  go_enter Try.func22, Try.ntmps22
  go_wp2_with fail
  refine HF.out.mono ?_
  rintro e w1 ⟨r, rfl, hr, hb⟩
  have HR := Lib.hid hr
  have BB := Lib.hid hb
  clear hr hb HF
  go_wp2
  go_ret
  exact ⟨r, rfl, HR.out, BB.out⟩
theorem strings_ContainsFunc_n (s : ByteArray) (b : Bool) (hb : b = true ↔ ¬ LW s) (w : World) (hs : s.size ≤ 1048576) :
    Calls Try.prog 16 #[.string s, .func (.func 17) #[] #[]] w fun e w' => e = .returned (.bool b) ∧ Below w.heap.size w w' := by
  have HF := Lib.hid (strings_IndexFunc_n s w hs)
  have HB := Lib.hid hb
  clear hb
  go_enter Try.func16, Try.ntmps16
  go_wp2_with fail
  refine HF.out.mono ?_
  rintro e w1 ⟨r, rfl, hr, hb⟩
  have HR := Lib.hid hr
  have BB := Lib.hid hb
  clear hr hb HF
  by_cases h0 : 0 ≤ r
  · obtain rfl : b = true := HB.out.2 (HR.out.1 h0)
    clear HB HR
    go_wp2
    go_ret
    exact ⟨by simp [h0], BB.out⟩
  · obtain rfl : b = false := by cases b with | false => rfl | true => exact absurd (HR.out.2 (HB.out.1 rfl)) h0
    clear HB HR
    go_wp2
    go_ret
    exact ⟨by simp [h0], BB.out⟩
theorem impl_isName (s : ByteArray) (b : Bool) (hb : b = true ↔ NM s) (w : World) (hm : s.size ≤ 1048576) :
    Calls Try.prog 12 #[.string s] w fun e w' => e = .returned (.bool b) ∧ Below w.heap.size w w' := by
  have A := Lib.hid (Below.refl w.heap.size w)
  by_cases h1 : 1 ≤ s.size
  · by_cases h8 : s.size ≤ 8
    · have HC := Lib.hid (strings_ContainsFunc_n s (!b) (by
        cases b with
        | false => exact ⟨fun _ h => absurd (hb.2 ⟨h1, h8, h⟩) (by decide), fun _ => rfl⟩
        | true => exact ⟨fun h => absurd h (by decide), fun h => absurd (hb.1 rfl).2.2 h⟩) w hm)
      clear hb
      go_enter Try.func12, Try.ntmps12
      go_wp2_with fail
      refine HC.out.mono ?_
      rintro e w1 ⟨rfl, hb⟩
      have BB := Lib.hid hb
      clear hb HC
      go_wp2
      go_ret
      exact ⟨by simp, BB.out⟩
    · obtain rfl : b = false := by cases b with | false => rfl | true => exact absurd (hb.1 rfl).2.1 h8
      clear hb
      go_enter Try.func12, Try.ntmps12
      go_wp2
      go_ret
      exact ⟨rfl, A.out⟩
  · obtain rfl : b = false := by cases b with | false => rfl | true => exact absurd (hb.1 rfl).1 h1
    clear hb
    go_enter Try.func12, Try.ntmps12
    go_wp2
    go_ret
    exact ⟨rfl, A.out⟩
theorem spec_l35Name (s : ByteArray) (b : Bool) (hb : b = true ↔ NM s) (w : World) (hm : s.size ≤ 1048576) :
    Calls Try.prog 10 #[.string s] w fun e w' => e = .returned (.bool b) ∧ Below w.heap.size w w' := by
  have A := Lib.hid (Below.refl w.heap.size w)
  go_enter Try.func10, Try.ntmps10
  go_wp2
  go_loopw [3] (fun x wr => ∃ v : Nat, x = .int .i64 (v : Int) ∧ v ≤ s.size ∧ (∀ u (h : u < s.size), u < v → 97 ≤ s[u].toNat ∧ s[u].toNat ≤ 122) ∧ Below w.heap.size w wr) (fun x _ => s.size - (intOf x).toNat)
  case atStart => exact ⟨0, rfl, by omega, fun u _ h => by omega, A.out⟩
  case round =>
    clear A
    obtain ⟨v, rfl, hv, hlw, hb2⟩ := hrel
    have BB := Lib.hid hb2
    have HLW := Lib.hid hlw
    have HB := Lib.hid hb
    clear hb hb2 hlw
    by_cases hlt : v < s.size
    · by_cases hc : 97 ≤ s[v].toNat ∧ s[v].toNat ≤ 122
      · have HL2 : Hid (∀ u (h : u < s.size), u < v + 1 → 97 ≤ s[u].toNat ∧ s[u].toNat ≤ 122) := Lib.hid (fun u h hu => by rcases Nat.lt_or_ge u v with h1 | h1; exact HLW.out u h h1; obtain rfl : u = v := (by omega); exact hc)
        obtain ⟨hc1, hc2⟩ := hc
        clear HB
        go_wp2
        exact ⟨⟨v + 1, by go_num, by omega, HL2.out, BB.out⟩, by simp [intOf]; omega⟩
      · obtain rfl : b = false := by cases b with | false => rfl | true => exact absurd ((HB.out.1 rfl).2.2 v hlt) hc
        clear HB
        have hc2 : s[v].toNat < 97 ∨ 122 < s[v].toNat := by omega
        clear hc
        rcases hc2 with hc | hc
        · go_wp2
          go_ret
          exact ⟨rfl, BB.out⟩
        · go_wp2
          go_ret
          exact ⟨rfl, BB.out⟩
    · obtain rfl : v = s.size := by omega
      have hLW : LW s := fun i hi => HLW.out i hi hi
      by_cases h1 : 1 ≤ s.size
      · by_cases h8 : s.size ≤ 8
        · obtain rfl : b = true := HB.out.2 ⟨h1, h8, hLW⟩
          clear HB hLW hlt hv
          go_wp2
          go_ret
          exact ⟨by simp <;> omega, BB.out⟩
        · obtain rfl : b = false := by cases b with | false => rfl | true => exact absurd (HB.out.1 rfl).2.1 h8
          clear HB hLW hlt hv
          go_wp2
          go_ret
          exact ⟨by simp <;> omega, BB.out⟩
      · obtain rfl : b = false := by cases b with | false => rfl | true => exact absurd (HB.out.1 rfl).1 h1
        clear HB hLW hlt hv
        go_wp2
        go_ret
        exact ⟨by simp <;> omega, BB.out⟩
/-- what IsEntry says -/
def enR (k : Int) (b1 b2 b3 : Bool) : Bool := b1 && (if k = 1 then b2 else if k = 2 ∨ k = 3 then b3 else false)
theorem str_eq {f : ByteArray} {b3 : Bool} (h3 : b3 = true ↔ f = ⟨#[]⟩) : (b3 = true ∧ f = ⟨#[]⟩) ∨ (b3 = false ∧ ¬ f = ⟨#[]⟩ ∧ ¬ f.toList = []) := by
  cases b3 with
  | true => exact .inl ⟨rfl, h3.1 rfl⟩
  | false =>
    have hn : ¬ f = ⟨#[]⟩ := fun h => absurd (h3.2 h) (by decide)
    exact .inr ⟨rfl, hn, fun h => ba_ne hn (by rw [h, Go.ByteArray.toList_eq])⟩
theorem impl_IsEntry (k : Int) (n f : ByteArray) (b1 b2 b3 : Bool) (h1 : b1 = true ↔ NM n) (h2 : b2 = true ↔ TX f) (h3 : b3 = true ↔ f = ⟨#[]⟩) (w : World) (hn : n.size ≤ 1048576) (hf : f.size ≤ 1048576) :
    Calls Try.prog 9 #[.agg #[.int .i64 k, .string n, .string f]] w fun e w' => e = .returned (.bool (enR k b1 b2 b3)) ∧ Below w.heap.size w w' := by
  have H1 := Lib.hid (fun W => impl_isName n b1 h1 W hn)
  have H2 := Lib.hid (fun W => impl_isText f b2 h2 W hf)
  have h3 := str_eq h3
  have hb := below_alloc' w (.cells #[.int .i64 k, .string n, .string f] 26)
  have K := Lib.hid (Blk.new w 26 #[.int .i64 k, .string n, .string f])
  have A := Lib.hid hb
  clear hb h1 h2
  by_cases k1 : k = 1
  · subst k1
    have E : enR 1 b1 b2 b3 = (b1 && b2) := by simp [enR]
    rw [E]
    clear E
    go_enter Try.func9, Try.ntmps9
    have kr := K.out.cell
    have lr := K.out.lt
    go_wp2_with fail
    refine (H1.out _).mono ?_
    rintro e w1 ⟨rfl, hb⟩
    replace K := Lib.hid (K.out.below hb K.out.lt)
    replace A := Lib.hid (bthen A.out hb)
    clear kr lr hb
    cases b1
    · go_wp2
      go_ret
      exact ⟨rfl, A.out⟩
    · have kr := K.out.cell
      have lr := K.out.lt
      go_wp2_with fail
      refine (H2.out _).mono ?_
      rintro e w2 ⟨rfl, hb⟩
      replace A := Lib.hid (bthen A.out hb)
      clear kr lr hb
      go_wp2
      go_ret
      exact ⟨by simp, A.out⟩
  · by_cases k23 : k = 2 ∨ k = 3
    · have E : enR k b1 b2 b3 = (b1 && b3) := by simp [enR, k1, k23]
      rw [E]
      clear E H2
      rcases k23 with rfl | rfl
      all_goals (go_enter Try.func9, Try.ntmps9)
      all_goals (have kr := K.out.cell; have lr := K.out.lt)
      all_goals (go_wp2_with fail)
      all_goals (refine (H1.out _).mono ?_)
      all_goals (rintro e w1 ⟨rfl, hb⟩)
      all_goals (replace K := Lib.hid (K.out.below hb K.out.lt))
      all_goals (replace A := Lib.hid (bthen A.out hb))
      all_goals (clear kr lr hb)
      all_goals (cases b1)
      all_goals (have kr := K.out.cell; have lr := K.out.lt)
      all_goals (rcases h3 with ⟨rfl, rfl⟩ | ⟨rfl, h3, h4⟩)
      all_goals (go_wp2)
      all_goals (go_ret)
      all_goals (first | exact ⟨rfl, A.out⟩ | exact ⟨by simp [h4], A.out⟩ | exact ⟨by simp, A.out⟩)
    · have E : enR k b1 b2 b3 = false := by simp [enR, k1, k23]
      rw [E]
      clear E H2 H1
      have k2 : ¬ k = 2 := fun h => k23 (.inl h)
      have k3 : ¬ k = 3 := fun h => k23 (.inr h)
      clear k23
      go_enter Try.func9, Try.ntmps9
      have kr := K.out.cell
      have lr := K.out.lt
      go_wp2
      go_ret
      exact ⟨rfl, A.out⟩
theorem spec_IsEntry (k : Int) (n f : ByteArray) (b1 b2 b3 : Bool) (h1 : b1 = true ↔ NM n) (h2 : b2 = true ↔ TX f) (h3 : b3 = true ↔ f = ⟨#[]⟩) (w : World) (hn : n.size ≤ 1048576) (hf : f.size ≤ 1048576) :
    Calls Try.prog 8 #[.agg #[.int .i64 k, .string n, .string f]] w fun e w' => e = .returned (.bool (enR k b1 b2 b3)) ∧ Below w.heap.size w w' := by
  have H1 := Lib.hid (fun W => spec_l35Name n b1 h1 W hn)
  have H2 := Lib.hid (fun W => spec_l02Good f b2 h2 W hf)
  have h3 := str_eq h3
  have hb := below_alloc' w (.cells #[.int .i64 k, .string n, .string f] 26)
  have K := Lib.hid (Blk.new w 26 #[.int .i64 k, .string n, .string f])
  have A := Lib.hid hb
  clear hb h1 h2
  obtain ⟨r, hr⟩ : ∃ r, enR k b1 b2 b3 = r := ⟨_, rfl⟩
  rw [hr]
  have HR := Lib.hid hr
  clear hr
  go_enter Try.func8, Try.ntmps8
  have kr := K.out.cell
  have lr := K.out.lt
  go_wp2_with fail
  refine (H1.out _).mono ?_
  rintro e w1 ⟨rfl, hb⟩
  replace K := Lib.hid (K.out.below hb K.out.lt)
  replace A := Lib.hid (bthen A.out hb)
  clear kr lr hb
  cases b1
  · obtain rfl : r = false := by rw [← HR.out]; simp [enR]
    clear HR
    go_wp2
    go_ret
    exact ⟨rfl, A.out⟩
  · have kr := K.out.cell
    have lr := K.out.lt
    by_cases k1 : k = 1
    · subst k1
      obtain rfl : r = b2 := by rw [← HR.out]; simp [enR]
      clear HR
      go_wp2_with fail
      refine (H2.out _).mono ?_
      rintro e w2 ⟨u, rfl, hb⟩
      replace A := Lib.hid (bthen A.out hb)
      clear kr lr hb
      go_wp2
      go_ret
      exact ⟨rfl, A.out⟩
    · by_cases k23 : k = 2 ∨ k = 3
      · obtain rfl : r = b3 := by rw [← HR.out]; simp [enR, k1, k23]
        clear HR H2
        rcases k23 with rfl | rfl
        all_goals (rcases h3 with ⟨rfl, rfl⟩ | ⟨rfl, h3, h4⟩)
        all_goals (go_wp2)
        all_goals (go_ret)
        all_goals (first | exact ⟨rfl, A.out⟩ | exact ⟨by simp [h4], A.out⟩ | exact ⟨by simp, A.out⟩)
      · obtain rfl : r = false := by rw [← HR.out]; simp [enR, k1, k23]
        have k2 : ¬ k = 2 := fun h => k23 (.inl h)
        have k3 : ¬ k = 3 := fun h => k23 (.inr h)
        clear k23 HR H2
        go_wp2
        go_ret
        exact ⟨rfl, A.out⟩
end Go.Proofs.Ytebpjcbgnagjeaa
