/- Contracts of chapter 14, of the program: filtrationWith, TransitiveFiltration. -/
import Derived.Test.YtcjplcliggciaaaGreatDoor14A
import Derived.Test.YtcjplcliggciaaaGreatDoorFD
namespace Go.Proofs.YtcjplcliggciaaaGreatDoor
open Go.RowKit
set_option linter.unusedVariables false
set_option linter.unusedSimpArgs false
theorem en_fw_1 : ∀ (args : Array Value) (w : World), (callFunc 106 args).run Tryz.prog w = .ok (.enter 106 args) w := enters Tryz.func106 (by kernel_rfl) (by kernel_rfl)
theorem impl_fw_1 (F P Q x y : Nat) (b : Bool) (kf : FuncId) (w : World) (hP : w.cell? ⟨P, 0, none⟩ = some (.func (.func kf) #[] #[])) (hQ : w.cell? ⟨Q, 0, none⟩ = some (.pointer (some ⟨F, 0, none⟩)))
    (hk : ∀ (args : Array Value) (w : World), (callFunc kf args).run Tryz.prog w = .ok (.enter kf args) w)
    (hf : Calls Tryz.prog kf #[.pointer (some ⟨F, 0, none⟩), .int .i64 x, .int .i64 y] w fun e w' => e = .returned (.bool b) ∧ Below w.heap.size w w') :
    Calls Tryz.prog 106 #[.int .i64 x, .int .i64 y, .pointer (some ⟨P, 0, none⟩), .pointer (some ⟨Q, 0, none⟩)] w fun e w' => e = .returned (.bool b) ∧ Below w.heap.size w w' := by
  have HF := Lib.hid hf
  clear hf
  go_enter Tryz.func106, Tryz.ntmps106
  go_wp2_with fail
  refine HF.out.mono ?_
  rintro e w1 ⟨rfl, hb⟩
  go_wp2
  go_ret
  exact ⟨rfl, hb⟩
set_option maxHeartbeats 1000000 in
set_option maxRecDepth 100000 in
theorem impl_fw_ok (ns us : List Nat) (f : Fm) (A0 A1 : Option Addr) (c0 c1 : Nat) (v : Value) (w : World) (hm : Mdl w (.slice A0 ns.length c0) (.slice A1 6 c1) ns us) (h1 : MdN ns us) (h : Sl cN w v (enc f)) (hok : f.ok = true) (hl : (enc f).length ≤ 40) (hmk : mdOk ns.length (li ns) (li us) = true) (hfk : isF (enc f) = true) (kf : FuncId) (fl : Int) (p : Nat → Nat → Bool)
    (hk : ∀ (args : Array Value) (w : World), (callFunc kf args).run Tryz.prog w = .ok (.enter kf args) w)
    (hp : ∀ F A cc bx dm W, Fil W F ns us f A0 A1 A c0 c1 cc v bx dm → ∀ (x y : Nat), x < ns.length → y < ns.length → Calls Tryz.prog kf #[.pointer (some ⟨F, 0, none⟩), .int .i64 x, .int .i64 y] W fun e w' => e = .returned (.bool (p x y)) ∧ Below W.heap.size W w')
    (hfl : ∀ W, Sl cI W (.slice A0 ns.length c0) (li ns) → Calls Tryz.prog 104 #[.agg #[.int .i64 ns.length, .slice A0 ns.length c0], .int .i64 fl] W fun e w' => e = .returned (.bool true) ∧ Below W.heap.size W w') :
    Calls Tryz.prog 65 #[.agg #[.int .i64 ns.length, .slice A0 ns.length c0, .slice A1 6 c1], v, .int .i64 fl, .func (.func kf) #[] #[]] w fun e w' => ∃ u, e = .returned (.tuple #[.agg #[.int .i64 (acn ns us f : Nat), u], .int .i64 0]) ∧ Ow cI 2 w.heap.size w' u (li (frm ns us f p)) ∧ Below w.heap.size w w' := by
  have hb0 := below_alloc' w (.cells #[.int .i64 ns.length, .slice A0 ns.length c0, .slice A1 6 c1] 35)
  have hk0 := Blk.new w 35 #[.int .i64 ns.length, .slice A0 ns.length c0, .slice A1 6 c1]
  have hb1 := below_alloc' (w.alloc (.cells #[.int .i64 ns.length, .slice A0 ns.length c0, .slice A1 6 c1] 35)) (.cells #[.func (.func kf) #[] #[]] 91)
  have hk1 : Blk _ (w.heap.size + 1) _ _ := Blk.new' (w.alloc (.cells #[.int .i64 ns.length, .slice A0 ns.length c0, .slice A1 6 c1] 35)) 91 #[.func (.func kf) #[] #[]] (by simp)
  have hb2 := below_alloc' ((w.alloc (.cells #[.int .i64 ns.length, .slice A0 ns.length c0, .slice A1 6 c1] 35)).alloc (.cells #[.func (.func kf) #[] #[]] 91)) (.cells #[.int .i64 0, .slice none 0 0] 33)
  have hk2 : Blk _ (w.heap.size + 2) _ _ := Blk.new' ((w.alloc (.cells #[.int .i64 ns.length, .slice A0 ns.length c0, .slice A1 6 c1] 35)).alloc (.cells #[.func (.func kf) #[] #[]] 91)) 33 #[.int .i64 0, .slice none 0 0] (by simp)
  have HB := Lib.hid (bthen (bthen hb0 hb1) hb2)
  have HK0 := Lib.hid ((hk0.below hb1 hk0.lt).below hb2 (hk0.below hb1 hk0.lt).lt)
  have HK1 := Lib.hid (hk1.below hb2 hk1.lt)
  have HK2 := Lib.hid hk2
  have HP := Lib.hid hp
  clear hp
  have HM := Lib.hid hm
  have HF := Lib.hid h
  have H1 := Lib.hid h1
  have E1 := Lib.hid (li_length ns)
  have E2 := Lib.hid (show (li us).length = 6 by rw [li_length, h1.l])
  have HX : Hid (fcode ns.length (li ns) (li us) (enc f) = 0) := Lib.hid (by unfold fcode; rw [hmk, hfk]; rfl)
  have HC := Lib.hid (fun W (hW : Below w.heap.size w W) => HX.out ▸ impl_modelCode ns.length _ _ v (li ns) (li us) (enc f) W (hm.a.below hW) (hm.u.below hW) (h.below hW) (by rw [E1.out]; have := h1.r.1; omega) (by rw [E2.out]; omega) (by omega))
  have HN := Lib.hid (fun W (hW : Below w.heap.size w W) => impl_newFilter ns us f A0 A1 c0 c1 v W (hm.below hW) h1 (h.below hW) hok hl)
  have HL := Lib.hid hl
  have HFl := Lib.hid (fun W (hW : Below w.heap.size w W) => hfl W (hm.a.below hW))
  clear hb0 hk0 hm h hmk hfk h1 hl hb1 hk1 hb2 hk2 hfl
  go_enter Tryz.func65, Tryz.ntmps65
  go_upto_region 1 with fail
  generalize World.alloc (World.alloc (w.alloc _) _) _ = W at *
  have k0 := HK0.out.cell
  have l0 := HK0.out.lt
  go_wp2_with fail
  refine (HC.out _ HB.out).mono ?_
  rintro e w1 ⟨rfl, hb⟩
  have HB1 := Lib.hid (bthen HB.out hb)
  have HK3 := Lib.hid (HK0.out.below hb l0)
  have HK4 := Lib.hid (HK1.out.below hb HK1.out.lt)
  have HK5 := Lib.hid (HK2.out.below hb HK2.out.lt)
  clear hb k0 l0
  have k0 : w1.cell? ⟨w.heap.size, 0, none⟩ = some (.int .i64 (ns.length : Int)) := HK3.out.cell 0
  have k1 : w1.cell? ⟨w.heap.size, 1, none⟩ = some (.slice A0 ns.length c0) := HK3.out.cell 1
  have l0 := HK3.out.lt
  go_wp2_with fail
  refine (HFl.out _ HB1.out).mono ?_
  rintro e w2 ⟨rfl, hb⟩
  have HB2 := Lib.hid (bthen HB1.out hb)
  have HK6 := Lib.hid (HK3.out.below hb l0)
  have HK7 := Lib.hid (HK4.out.below hb HK4.out.lt)
  have HK8 := Lib.hid (HK5.out.below hb HK5.out.lt)
  clear hb k0 k1 l0
  have k0 := HK6.out.cell
  have l0 := HK6.out.lt
  go_wp2_with fail
  refine (HN.out _ HB2.out).mono ?_
  rintro e w3 ⟨F, A, cc, bx, dm, rfl, hF, hbl, ho, hbx, hdm, hb⟩
  have HB3 := Lib.hid (bthen HB2.out hb)
  have HFil : Hid (Fil w3 F ns us f A0 A1 A c0 c1 cc v bx dm) := Lib.hid ⟨hbl, HM.out.below HB3.out, ho.sl, hbx, hdm⟩
  have HK9 := Lib.hid (HK7.out.below hb HK7.out.lt)
  have HKa := Lib.hid (HK8.out.below hb HK8.out.lt)
  clear ho hb hbl hbx hdm k0 l0
  go_upto_region 7 with fail
  have hba := below_alloc' w3 (.cells #[.pointer (some ⟨F, 0, none⟩)] 73)
  have HKb := Lib.hid (Blk.new w3 73 #[.pointer (some ⟨F, 0, none⟩)])
  have HKc := Lib.hid (HK9.out.below hba HK9.out.lt)
  have HKd := Lib.hid (HKa.out.below hba HKa.out.lt)
  have HB4 := Lib.hid (bthen HB3.out hba)
  have HFl4 := Lib.hid (HFil.out.below hba)
  clear hba
  generalize World.alloc w3 _ = w4 at *
  have HFr := Lib.hid (impl_frame ns us f F A0 A1 A c0 c1 cc v bx dm 106 #[] #[.pointer (some ⟨w.heap.size + 1, 0, none⟩), .pointer (some ⟨w3.heap.size, 0, none⟩)] p w4 HFl4.out H1.out.r.1 en_fw_1 (fun w' hw' x y hx hy => by
    rw [show (#[] ++ (#[Value.int .i64 (x : Int), .int .i64 (y : Int)] ++ #[.pointer (some ⟨w.heap.size + 1, 0, none⟩), .pointer (some ⟨w3.heap.size, 0, none⟩)]) : Array Value) = #[.int .i64 x, .int .i64 y, .pointer (some ⟨w.heap.size + 1, 0, none⟩), .pointer (some ⟨w3.heap.size, 0, none⟩)] from rfl]
    exact impl_fw_1 F (w.heap.size + 1) w3.heap.size x y (p x y) kf w' ((HKc.out.below hw' HKc.out.lt).cell 0) ((HKb.out.below hw' HKb.out.lt).cell 0) hk (HP.out F A cc bx dm w' (HFl4.out.below hw') x y hx hy)))
  have kb : w4.cell? ⟨w3.heap.size, 0, none⟩ = some (.pointer (some ⟨F, 0, none⟩)) := HKb.out.cell 0
  have lb := HKb.out.lt
  clear hk
  go_wp2_with fail
  refine HFr.out.mono ?_
  rintro e w5 ⟨B, d, rfl, ho, hb⟩
  have HKe := Lib.hid (HKd.out.below hb HKd.out.lt)
  have HB5 := Lib.hid (bthen HB4.out hb)
  have O1 := Lib.hid ho
  have lt4 := Lib.hid HKd.out.lt
  have LE := Lib.hid HB4.out.size
  clear ho hb kb lb
  have rc := HKe.out.cell
  have rf := HKe.out.frozen
  have rl := HKe.out.lt
  go_wp2
  refine bodyPost_ret (v := .tuple #[.agg #[.int .i64 (acn ns us f : Nat), .slice B (acn ns us f) d], .int .i64 0]) (by simp [results, Tryz.results65, go_sem, rc, rf, rl]) rfl ⟨_, rfl, ?_, ?_⟩
  · refine Ow.mono (B := w4.heap.size) ?_ LE.out
    iterate 2 refine Ow.setBelow ?_ (show w.heap.size + 2 < w4.heap.size from lt4.out) _
    exact O1.out
  · iterate 2 refine Below.setCell ?_ (show w.heap.size ≤ w.heap.size + 2 by omega) _
    exact HB5.out
set_option maxRecDepth 100000 in
theorem impl_fw_state (ns us : List Nat) (f : Fm) (A0 A1 : Option Addr) (c0 c1 : Nat) (v : Value) (w : World) (hm : Mdl w (.slice A0 ns.length c0) (.slice A1 6 c1) ns us) (h1 : MdN ns us) (h : Sl cN w v (enc f)) (hok : f.ok = true) (hl : (enc f).length ≤ 40) (hmk : mdOk ns.length (li ns) (li us) = true) (hfk : isF (enc f) = true) (kf : FuncId) (fl : Int)
    (hfl : ∀ W, Sl cI W (.slice A0 ns.length c0) (li ns) → Calls Tryz.prog 104 #[.agg #[.int .i64 ns.length, .slice A0 ns.length c0], .int .i64 fl] W fun e w' => e = .returned (.bool false) ∧ Below W.heap.size W w') :
    Calls Tryz.prog 65 #[.agg #[.int .i64 ns.length, .slice A0 ns.length c0, .slice A1 6 c1], v, .int .i64 fl, .func (.func kf) #[] #[]] w fun e w' => e = .returned (.tuple #[.agg #[.int .i64 0, .slice none 0 0], .int .i64 5]) ∧ Below w.heap.size w w' := by
  have hb0 := below_alloc' w (.cells #[.int .i64 ns.length, .slice A0 ns.length c0, .slice A1 6 c1] 35)
  have hk0 := Blk.new w 35 #[.int .i64 ns.length, .slice A0 ns.length c0, .slice A1 6 c1]
  have hb1 := below_alloc' (w.alloc (.cells #[.int .i64 ns.length, .slice A0 ns.length c0, .slice A1 6 c1] 35)) (.cells #[.func (.func kf) #[] #[]] 91)
  have hk1 : Blk _ (w.heap.size + 1) _ _ := Blk.new' (w.alloc (.cells #[.int .i64 ns.length, .slice A0 ns.length c0, .slice A1 6 c1] 35)) 91 #[.func (.func kf) #[] #[]] (by simp)
  have hb2 := below_alloc' ((w.alloc (.cells #[.int .i64 ns.length, .slice A0 ns.length c0, .slice A1 6 c1] 35)).alloc (.cells #[.func (.func kf) #[] #[]] 91)) (.cells #[.int .i64 0, .slice none 0 0] 33)
  have hk2 : Blk _ (w.heap.size + 2) _ _ := Blk.new' ((w.alloc (.cells #[.int .i64 ns.length, .slice A0 ns.length c0, .slice A1 6 c1] 35)).alloc (.cells #[.func (.func kf) #[] #[]] 91)) 33 #[.int .i64 0, .slice none 0 0] (by simp)
  have HB := Lib.hid (bthen (bthen hb0 hb1) hb2)
  have HK0 := Lib.hid ((hk0.below hb1 hk0.lt).below hb2 (hk0.below hb1 hk0.lt).lt)
  have HK1 := Lib.hid (hk1.below hb2 hk1.lt)
  have HK2 := Lib.hid hk2
  have HM := Lib.hid hm
  have HF := Lib.hid h
  have H1 := Lib.hid h1
  have E1 := Lib.hid (li_length ns)
  have E2 := Lib.hid (show (li us).length = 6 by rw [li_length, h1.l])
  have HX : Hid (fcode ns.length (li ns) (li us) (enc f) = 0) := Lib.hid (by unfold fcode; rw [hmk, hfk]; rfl)
  have HC := Lib.hid (fun W (hW : Below w.heap.size w W) => HX.out ▸ impl_modelCode ns.length _ _ v (li ns) (li us) (enc f) W (hm.a.below hW) (hm.u.below hW) (h.below hW) (by rw [E1.out]; have := h1.r.1; omega) (by rw [E2.out]; omega) (by omega))
  have HN := Lib.hid (fun W (hW : Below w.heap.size w W) => impl_newFilter ns us f A0 A1 c0 c1 v W (hm.below hW) h1 (h.below hW) hok hl)
  have HL := Lib.hid hl
  have HFl := Lib.hid (fun W (hW : Below w.heap.size w W) => hfl W (hm.a.below hW))
  clear hb0 hk0 hm h hmk hfk h1 hl hb1 hk1 hb2 hk2 hfl
  go_enter Tryz.func65, Tryz.ntmps65
  go_upto_region 1 with fail
  generalize World.alloc (World.alloc (w.alloc _) _) _ = W at *
  have k0 := HK0.out.cell
  have l0 := HK0.out.lt
  go_wp2_with fail
  refine (HC.out _ HB.out).mono ?_
  rintro e w1 ⟨rfl, hb⟩
  have HB1 := Lib.hid (bthen HB.out hb)
  have HK3 := Lib.hid (HK0.out.below hb l0)
  have HK4 := Lib.hid (HK1.out.below hb HK1.out.lt)
  have HK5 := Lib.hid (HK2.out.below hb HK2.out.lt)
  clear hb k0 l0
  have k0 : w1.cell? ⟨w.heap.size, 0, none⟩ = some (.int .i64 (ns.length : Int)) := HK3.out.cell 0
  have k1 : w1.cell? ⟨w.heap.size, 1, none⟩ = some (.slice A0 ns.length c0) := HK3.out.cell 1
  have l0 := HK3.out.lt
  go_wp2_with fail
  refine (HFl.out _ HB1.out).mono ?_
  rintro e w2 ⟨rfl, hb⟩
  have HB2 := Lib.hid (bthen HB1.out hb)
  have HK6 := Lib.hid (HK3.out.below hb l0)
  have HK7 := Lib.hid (HK4.out.below hb HK4.out.lt)
  have HK8 := Lib.hid (HK5.out.below hb HK5.out.lt)
  clear hb k0 k1 l0
  have rc := HK8.out.cell
  have rf := HK8.out.frozen
  have rl := HK8.out.lt
  go_wp2
  refine bodyPost_ret (v := .tuple #[.agg #[.int .i64 0, .slice none 0 0], .int .i64 5]) (by simp [results, Tryz.results65, go_sem, rc, rf, rl]) rfl ⟨rfl, ?_⟩
  iterate 2 refine Below.setCell ?_ (show w.heap.size ≤ w.heap.size + 2 by omega) _
  exact HB2.out
end Go.Proofs.YtcjplcliggciaaaGreatDoor
