/-
  Plain facts on texts' order: no program in sight.
-/
import Derived.Lib.Bytealg
import Derived.Lib.Strings
import GoSem.Op.String
namespace Go.Proofs.Ytjhcbehnopmnpaa
open Go.Lib

theorem cb_range : ∀ l m : List UInt8, compareBytes l m = -1 ∨ compareBytes l m = 0 ∨ compareBytes l m = 1
  | [], [] => by simp [compareBytes]
  | [], _ :: _ => by simp [compareBytes]
  | _ :: _, [] => by simp [compareBytes]
  | a :: l, b :: m => by
    unfold compareBytes
    split
    · simp
    · split
      · simp
      · exact cb_range l m
theorem u8_tri (a b : UInt8) : a < b ∨ a = b ∨ b < a := by
  simp only [UInt8.lt_iff_toNat_lt, ← UInt8.toNat_inj]
  omega
theorem cb_swap : ∀ l m : List UInt8, compareBytes m l = - compareBytes l m
  | [], [] => by simp [compareBytes]
  | [], _ :: _ => by simp [compareBytes]
  | _ :: _, [] => by simp [compareBytes]
  | a :: l, b :: m => by
    have ih := cb_swap l m
    unfold compareBytes
    rcases u8_tri a b with h | h | h
    · have h' : ¬ b < a := UInt8.lt_asymm h
      simp [h, h']
    · subst h
      simp [UInt8.lt_irrefl, ih]
    · have h' : ¬ a < b := UInt8.lt_asymm h
      simp [h, h']
theorem cb_self : ∀ l : List UInt8, compareBytes l l = 0
  | [] => rfl
  | a :: l => by unfold compareBytes; simp [UInt8.lt_irrefl, cb_self l]
theorem cb_eq : ∀ l m : List UInt8, compareBytes l m = 0 ↔ l = m
  | [], [] => by simp [compareBytes]
  | [], _ :: _ => by simp [compareBytes]
  | _ :: _, [] => by simp [compareBytes]
  | a :: l, b :: m => by
    have ih := cb_eq l m
    unfold compareBytes
    rcases u8_tri a b with h | h | h
    · have : a ≠ b := fun e => by subst e; exact UInt8.lt_irrefl a h
      simp [h, this]
    · subst h
      simp [UInt8.lt_irrefl, ih]
    · have h' : ¬ a < b := UInt8.lt_asymm h
      have : a ≠ b := fun e => by subst e; exact UInt8.lt_irrefl a h
      simp [h, h', this]
theorem cb_less : ∀ l m : List UInt8, Op.bytesLess l m = decide (compareBytes l m < 0)
  | [], [] => by simp [compareBytes, Op.bytesLess]
  | [], _ :: _ => by simp [compareBytes, Op.bytesLess]
  | _ :: _, [] => by simp [compareBytes, Op.bytesLess]
  | a :: l, b :: m => by
    have ih := cb_less l m
    unfold compareBytes Op.bytesLess
    rcases u8_tri a b with h | h | h
    · simp [h]
    · subst h
      simp [UInt8.lt_irrefl, ih]
    · have h' : ¬ a < b := UInt8.lt_asymm h
      have : a ≠ b := fun e => by subst e; exact UInt8.lt_irrefl a h
      simp [h, h', this]
theorem cb_trans : ∀ l m r : List UInt8, compareBytes l m ≤ 0 → compareBytes m r ≤ 0 → compareBytes l r ≤ 0
  | [], _, [] => by simp [compareBytes]
  | [], _, _ :: _ => by simp [compareBytes]
  | _ :: _, [], _ => by simp [compareBytes]
  | _ :: _, _ :: _, [] => by simp [compareBytes]
  | a :: l, b :: m, c :: r => by
    have ih := cb_trans l m r
    unfold compareBytes
    rcases u8_tri a b with h | h | h
    · rcases u8_tri b c with k | k | k
      · have := UInt8.lt_trans h k
        simp [this]
      · subst k; simp [h]
      · have k' : ¬ b < c := UInt8.lt_asymm k
        simp [k, k']
    · subst h
      rcases u8_tri a c with k | k | k
      · simp [k]
      · subst k; simpa [UInt8.lt_irrefl] using ih
      · have k' : ¬ a < c := UInt8.lt_asymm k
        simp [k, k']
    · have h' : ¬ a < b := UInt8.lt_asymm h
      simp [h, h']

def cmpS (a b : ByteArray) : Int := Lib.compareBytes a.data.toList b.data.toList
theorem cmpS_range (a b : ByteArray) : cmpS a b = -1 ∨ cmpS a b = 0 ∨ cmpS a b = 1 := cb_range _ _
theorem cmpS_swap (a b : ByteArray) : cmpS b a = - cmpS a b := cb_swap _ _
theorem cmpS_self (a : ByteArray) : cmpS a a = 0 := cb_self _
theorem cmpS_eq (a b : ByteArray) : cmpS a b = 0 ↔ a = b := by
  obtain ⟨⟨la⟩⟩ := a
  obtain ⟨⟨lb⟩⟩ := b
  unfold cmpS
  rw [cb_eq]
  constructor
  · intro h; simp at h; subst h; rfl
  · intro h; injection h with h; injection h
theorem cmpS_less (a b : ByteArray) : Op.bytesLess a.toList b.toList = decide (cmpS a b < 0) := by
  rw [Lib.toList_data, Lib.toList_data, cb_less]; rfl
theorem cmpS_beq (a b : ByteArray) : (a.toList == b.toList) = decide (cmpS a b = 0) := by
  rw [Lib.toList_data, Lib.toList_data, Bool.eq_iff_iff]
  unfold cmpS
  rw [decide_eq_true_eq, cb_eq, beq_iff_eq]
theorem cmpS_trans (a b c : ByteArray) : cmpS a b ≤ 0 → cmpS b c ≤ 0 → cmpS a c ≤ 0 := cb_trans _ _ _
end Go.Proofs.Ytjhcbehnopmnpaa
