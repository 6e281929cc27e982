/- Plain law: the bits of the digits of a text's code are the text's. -/
import Derived.Test.YtbkhgmehfgfmfaaDoorBpm
set_option linter.unusedVariables false
namespace Nun
def bits6 (n : Nat) : List Nat := [n / 32 % 2, n / 16 % 2, n / 8 % 2, n / 4 % 2, n / 2 % 2, n % 2]
def bitsOf (l : List UInt8) : List Nat := l.flatMap fun c => match val64 c with | some n => bits6 n | none => []
def eight (l : List Nat) : Nat → Nat
  | 0 => 0
  | i + 1 => 2 * eight l i + (l[i]?).getD 0
def bytesOf (l : List Nat) : List UInt8 := if h : 8 ≤ l.length then UInt8.ofNat (eight l 8) :: bytesOf (l.drop 8) else []
termination_by l.length
decreasing_by simp; omega
theorem bytesOf_more {l : List Nat} (h : 8 ≤ l.length) : bytesOf l = UInt8.ofNat (eight l 8) :: bytesOf (l.drop 8) := by rw [bytesOf, dif_pos h]
theorem bytesOf_few {l : List Nat} (h : ¬ 8 ≤ l.length) : bytesOf l = [] := by rw [bytesOf, dif_neg h]
theorem bytesOf_eight (x0 x1 x2 x3 x4 x5 x6 x7 : Nat) (l : List Nat) : bytesOf (x0 :: x1 :: x2 :: x3 :: x4 :: x5 :: x6 :: x7 :: l) = UInt8.ofNat (128 * x0 + 64 * x1 + 32 * x2 + 16 * x3 + 8 * x4 + 4 * x5 + 2 * x6 + x7) :: bytesOf l := by
  rw [bytesOf_more (by simp)]
  have : eight (x0 :: x1 :: x2 :: x3 :: x4 :: x5 :: x6 :: x7 :: l) 8 = 128 * x0 + 64 * x1 + 32 * x2 + 16 * x3 + 8 * x4 + 4 * x5 + 2 * x6 + x7 := by simp [eight]; omega
  rw [this]; rfl
theorem b6' : ∀ i : Fin 64, 32 * (i.1 / 32 % 2) + 16 * (i.1 / 16 % 2) + 8 * (i.1 / 8 % 2) + 4 * (i.1 / 4 % 2) + 2 * (i.1 / 2 % 2) + i.1 % 2 = i.1 ∧ 2 * (i.1 / 32 % 2) + i.1 / 16 % 2 = i.1 / 16 ∧ 8 * (i.1 / 32 % 2) + 4 * (i.1 / 16 % 2) + 2 * (i.1 / 8 % 2) + i.1 / 4 % 2 = i.1 / 4 ∧ 2 * (i.1 / 2 % 2) + i.1 % 2 = i.1 % 4 ∧ 8 * (i.1 / 8 % 2) + 4 * (i.1 / 4 % 2) + 2 * (i.1 / 2 % 2) + i.1 % 2 = i.1 % 16 := by decide +kernel
theorem b6 (n : Nat) (h : n < 64) : 32 * (n / 32 % 2) + 16 * (n / 16 % 2) + 8 * (n / 8 % 2) + 4 * (n / 4 % 2) + 2 * (n / 2 % 2) + n % 2 = n ∧ 2 * (n / 32 % 2) + n / 16 % 2 = n / 16 ∧ 8 * (n / 32 % 2) + 4 * (n / 16 % 2) + 2 * (n / 8 % 2) + n / 4 % 2 = n / 4 ∧ 2 * (n / 2 % 2) + n % 2 = n % 4 ∧ 8 * (n / 8 % 2) + 4 * (n / 4 % 2) + 2 * (n / 2 % 2) + n % 2 = n % 16 := b6' ⟨n, h⟩
theorem bitsOf_dig (n : Nat) (h : n < 64) (l : List UInt8) : bitsOf (dig n :: l) = bits6 n ++ bitsOf l := by
  show (match val64 (dig n) with | some n => bits6 n | none => []) ++ bitsOf l = _
  rw [val_dig h]
theorem bitsOf_pad (l : List UInt8) : bitsOf (61 :: l) = bitsOf l := rfl
theorem out_group (a b c : UInt8) (l r : List UInt8) : bytesOf (bitsOf (quad (a :: b :: c :: l) ++ r)) = a :: b :: c :: bytesOf (bitsOf r) := by
  have ha := a.toNat_lt; have hb := b.toNat_lt; have hc := c.toNat_lt
  unfold quad; rw [if_neg (by simp), if_neg (by simp), num3]
  generalize hN : (a.toNat * 256 + b.toNat) * 256 + c.toNat = N
  simp only [List.cons_append, List.nil_append]
  rw [bitsOf_dig _ (by omega), bitsOf_dig _ (by omega), bitsOf_dig _ (by omega), bitsOf_dig _ (by omega)]
  have q0 : N / 262144 % 64 * 4 + N / 4096 % 64 / 16 = a.toNat := by omega
  have q1 : N / 4096 % 64 % 16 * 16 + N / 64 % 64 / 4 = b.toNat := by omega
  have q2 : N / 64 % 64 % 4 * 64 + N % 64 = c.toNat := by omega
  have k0 := b6 (N / 262144 % 64) (by omega); have k1 := b6 (N / 4096 % 64) (by omega); have k2 := b6 (N / 64 % 64) (by omega); have k3 := b6 (N % 64) (by omega)
  generalize N / 262144 % 64 = d0 at *; generalize N / 4096 % 64 = d1 at *; generalize N / 64 % 64 = d2 at *; generalize N % 64 = d3 at *
  unfold bits6
  simp only [List.cons_append, List.nil_append]
  rw [bytesOf_eight, bytesOf_eight, bytesOf_eight]
  rw [u8_eq a _ (by omega), u8_eq b _ (by omega), u8_eq c _ (by omega)]
set_option maxHeartbeats 1000000 in
theorem out_two (a b : UInt8) : bytesOf (bitsOf (quad [a, b])) = [a, b] := by
  have ha := a.toNat_lt; have hb := b.toNat_lt
  unfold quad; rw [if_neg (by simp), if_pos (by simp), num2]
  generalize hN : (a.toNat * 256 + b.toNat) * 256 = N
  rw [bitsOf_dig _ (by omega), bitsOf_dig _ (by omega), bitsOf_dig _ (by omega), bitsOf_pad]
  have q0 : N / 262144 % 64 * 4 + N / 4096 % 64 / 16 = a.toNat := by omega
  have q1 : N / 4096 % 64 % 16 * 16 + N / 64 % 64 / 4 = b.toNat := by omega
  have k0 := b6 (N / 262144 % 64) (by omega); have k1 := b6 (N / 4096 % 64) (by omega); have k2 := b6 (N / 64 % 64) (by omega)
  generalize N / 262144 % 64 = d0 at *; generalize N / 4096 % 64 = d1 at *; generalize N / 64 % 64 = d2 at *
  unfold bits6
  simp only [List.cons_append, List.nil_append]
  rw [bytesOf_eight, bytesOf_eight, bytesOf_few (by simp [bitsOf])]
  rw [u8_eq a _ (by omega), u8_eq b _ (by omega)]
set_option maxHeartbeats 1000000 in
theorem out_one (a : UInt8) : bytesOf (bitsOf (quad [a])) = [a] := by
  have ha := a.toNat_lt
  unfold quad; rw [if_pos (by simp), if_pos (by simp), num1]
  generalize hN : a.toNat * 256 * 256 = N
  rw [bitsOf_dig _ (by omega), bitsOf_dig _ (by omega), bitsOf_pad, bitsOf_pad]
  have q0 : N / 262144 % 64 * 4 + N / 4096 % 64 / 16 = a.toNat := by omega
  have k0 := b6 (N / 262144 % 64) (by omega); have k1 := b6 (N / 4096 % 64) (by omega)
  generalize N / 262144 % 64 = d0 at *; generalize N / 4096 % 64 = d1 at *
  unfold bits6
  simp only [List.cons_append, List.nil_append]
  rw [bytesOf_eight, bytesOf_few (by simp [bitsOf])]
  rw [u8_eq a _ (by omega)]
theorem out_enc (n : Nat) : ∀ x : List UInt8, x.length ≤ n → bytesOf (bitsOf (enc64 x)) = x := by
  induction n with
  | zero =>
    intro l h
    have : l = [] := List.eq_nil_of_length_eq_zero (by omega)
    subst this; exact bytesOf_few (by simp [enc64, bitsOf])
  | succ n ih =>
    intro l h
    match l, h with
    | [], _ => exact bytesOf_few (by simp [enc64, bitsOf])
    | [a], _ => exact out_one a
    | [a, b], _ => exact out_two a b
    | a :: b :: c :: l, h =>
      show bytesOf (bitsOf (quad [a, b, c] ++ enc64 l)) = _
      rw [out_group, ih l (by simp at h; omega)]
/-- What the document's decoding answers. -/
theorem dec_law (s : List UInt8) : dec64 s = if enc64 (bytesOf (bitsOf s)) = s then some (bytesOf (bitsOf s)) else none := by
  rcases h : dec64 s with _ | x
  · rw [if_neg]
    intro he
    rw [← he, dec_enc _ _ (Nat.le_refl _)] at h
    cases h
  · have e := enc_dec _ _ _ (Nat.le_refl _) h
    have o : bytesOf (bitsOf s) = x := by rw [← e]; exact out_enc _ _ (Nat.le_refl _)
    rw [o, if_pos e]
end Nun
