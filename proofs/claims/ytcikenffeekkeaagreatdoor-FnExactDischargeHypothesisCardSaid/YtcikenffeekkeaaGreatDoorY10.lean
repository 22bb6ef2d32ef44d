/- Plain law: the text of a formula. No program in sight. -/
import Derived.Test.YtcikenffeekkeaaGreatDoorY02
namespace Go.Proofs.YtcikenffeekkeaaGreatDoor
set_option linter.unusedVariables false
def isfl : Fm → Bool | .fls => true | _ => false
/-- the level of the grammar at which the text of a formula stands -/
def lv : Fm → Nat
  | .bin .imp a b => if isfl b then 3 else 0
  | .bin .or a b => 1
  | .bin .and a b => 2
  | _ => 3
def wrp (own level : Nat) (t : ByteArray) : ByteArray := if own < level then ((⟨#[40]⟩ : ByteArray) ++ t) ++ (⟨#[41]⟩ : ByteArray) else t
def ltr (s : Nat) : ByteArray := (⟨#[112, 113, 114, 115, 116, 117]⟩ : ByteArray).extract s (s + 1)
/-- the text of a formula, without parentheses -/
def tbx : Fm → ByteArray
  | .var s => ltr s
  | .fls => ⟨#[70]⟩
  | .un .box a => (⟨#[91, 93]⟩ : ByteArray) ++ wrp (lv a) 3 (tbx a)
  | .un .dia a => (⟨#[60, 62]⟩ : ByteArray) ++ wrp (lv a) 3 (tbx a)
  | .bin .and a b => (wrp (lv a) 2 (tbx a) ++ (⟨#[38]⟩ : ByteArray)) ++ wrp (lv b) 3 (tbx b)
  | .bin .or a b => (wrp (lv a) 1 (tbx a) ++ (⟨#[124]⟩ : ByteArray)) ++ wrp (lv b) 2 (tbx b)
  | .bin .imp a b => if isfl b then (if isfl a then ⟨#[84]⟩ else (⟨#[126]⟩ : ByteArray) ++ wrp (lv a) 3 (tbx a)) else (wrp (lv a) 1 (tbx a) ++ (⟨#[62]⟩ : ByteArray)) ++ wrp (lv b) 0 (tbx b)
theorem wrp_size (a b : Nat) (t : ByteArray) : (wrp a b t).size ≤ t.size + 2 := by
  unfold wrp
  split
  · simp only [ByteArray.size_append]
    have h1 : (⟨#[40]⟩ : ByteArray).size = 1 := rfl
    have h2 : (⟨#[41]⟩ : ByteArray).size = 1 := rfl
    omega
  · omega
theorem tb_size (f : Fm) : (tbx f).size ≤ 8 * (enc f).length := by
  induction f with
  | var s => simp only [tbx, ltr, enc, List.length_cons, List.length_nil, ByteArray.size_extract]; omega
  | fls => simp [tbx, enc]; decide
  | un k a ih =>
    have h1 := wrp_size (lv a) 3 (tbx a)
    have e1 : (⟨#[91, 93]⟩ : ByteArray).size = 2 := rfl
    have e2 : (⟨#[60, 62]⟩ : ByteArray).size = 2 := rfl
    cases k <;> simp only [tbx, enc, List.length_cons, ByteArray.size_append] <;> omega
  | bin k a b iha ihb =>
    have e1 : (⟨#[38]⟩ : ByteArray).size = 1 := rfl
    have e2 : (⟨#[124]⟩ : ByteArray).size = 1 := rfl
    have e3 : (⟨#[62]⟩ : ByteArray).size = 1 := rfl
    have e4 : (⟨#[126]⟩ : ByteArray).size = 1 := rfl
    have e5 : (⟨#[84]⟩ : ByteArray).size = 1 := rfl
    have h1 := wrp_size (lv a) 3 (tbx a)
    have h2 := wrp_size (lv a) 2 (tbx a)
    have h3 := wrp_size (lv a) 1 (tbx a)
    have h4 := wrp_size (lv b) 3 (tbx b)
    have h5 := wrp_size (lv b) 2 (tbx b)
    have h6 := wrp_size (lv b) 0 (tbx b)
    cases k
    · simp only [tbx, enc, List.length_cons, List.length_append, ByteArray.size_append]; omega
    · simp only [tbx, enc, List.length_cons, List.length_append, ByteArray.size_append]; omega
    · simp only [tbx, enc, List.length_cons, List.length_append]
      split
      · split
        · omega
        · simp only [ByteArray.size_append]; omega
      · simp only [ByteArray.size_append]; omega
theorem wtb_size (f : Fm) (l : Nat) : (wrp (lv f) l (tbx f)).size ≤ 8 * (enc f).length + 2 := by
  have h1 := wrp_size (lv f) l (tbx f)
  have h2 := tb_size f
  omega
theorem lv_le (f : Fm) : lv f ≤ 3 := by
  cases f with
  | bin k a b => cases k <;> simp only [lv] <;> first | omega | (split <;> omega)
  | _ => simp [lv]
theorem isfl_iff (f : Fm) : isfl f = true ↔ f = .fls := by cases f <;> simp [isfl]
def txt (f : Fm) : ByteArray := wrp (lv f) 0 (tbx f)
theorem txt_tb (f : Fm) : txt f = tbx f := by unfold txt wrp; rw [if_neg (by omega)]
end Go.Proofs.YtcikenffeekkeaaGreatDoor
