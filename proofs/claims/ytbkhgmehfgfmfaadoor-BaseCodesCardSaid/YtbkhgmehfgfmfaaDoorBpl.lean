/- Plain laws of base 64: the document's coding is the program's. -/
import Derived.Test.YtbkhgmehfgfmfaaDoorBid
set_option linter.unusedVariables false
namespace Nun
theorem bits_hi2 : ∀ a : UInt8, 32 * (a.toNat / 128 % 2) + 16 * (a.toNat / 64 % 2) + 8 * (a.toNat / 32 % 2) + 4 * (a.toNat / 16 % 2) + 2 * (a.toNat / 8 % 2) + a.toNat / 4 % 2 = a.toNat / 4 := by decide +kernel
theorem bits_lo2 : ∀ a : UInt8, 2 * (a.toNat / 2 % 2) + a.toNat % 2 = a.toNat % 4 := by decide +kernel
theorem bits_hi4 : ∀ a : UInt8, 8 * (a.toNat / 128 % 2) + 4 * (a.toNat / 64 % 2) + 2 * (a.toNat / 32 % 2) + a.toNat / 16 % 2 = a.toNat / 16 := by decide +kernel
theorem bits_lo4 : ∀ a : UInt8, 8 * (a.toNat / 8 % 2) + 4 * (a.toNat / 4 % 2) + 2 * (a.toNat / 2 % 2) + a.toNat % 2 = a.toNat % 16 := by decide +kernel
theorem bits_hi6 : ∀ a : UInt8, 2 * (a.toNat / 128 % 2) + a.toNat / 64 % 2 = a.toNat / 64 := by decide +kernel
theorem bits_lo6 : ∀ a : UInt8, 32 * (a.toNat / 32 % 2) + 16 * (a.toNat / 16 % 2) + 8 * (a.toNat / 8 % 2) + 4 * (a.toNat / 4 % 2) + 2 * (a.toNat / 2 % 2) + a.toNat % 2 = a.toNat % 64 := by decide +kernel
theorem bitsL_cons (c : UInt8) (l : List UInt8) : bitsL (c :: l) = bits8 c ++ bitsL l := rfl
theorem num3 (a b c : UInt8) (l : List UInt8) : num (a :: b :: c :: l) 3 = (a.toNat * 256 + b.toNat) * 256 + c.toNat := by simp [num]
theorem num2 (a b : UInt8) : num [a, b] 3 = (a.toNat * 256 + b.toNat) * 256 := by simp [num]
theorem num1 (a : UInt8) : num [a] 3 = a.toNat * 256 * 256 := by simp [num]
theorem digs_six (x0 x1 x2 x3 x4 x5 : Nat) (l : List Nat) : digs (x0 :: x1 :: x2 :: x3 :: x4 :: x5 :: l) = dig (32 * x0 + 16 * x1 + 8 * x2 + 4 * x3 + 2 * x4 + x5) :: digs l := by
  rw [digs_more (by simp)]
  have : six (x0 :: x1 :: x2 :: x3 :: x4 :: x5 :: l) 6 = 32 * x0 + 16 * x1 + 8 * x2 + 4 * x3 + 2 * x4 + x5 := by simp [six]; omega
  rw [this]; rfl
theorem digs_group (a b c : UInt8) (l : List UInt8) : digs (bitsL (a :: b :: c :: l)) = quad (a :: b :: c :: l) ++ digs (bitsL l) := by
  have ha := a.toNat_lt; have hb := b.toNat_lt; have hc := c.toNat_lt
  rw [bitsL_cons, bitsL_cons, bitsL_cons]
  unfold bits8
  simp only [List.cons_append, List.nil_append]
  rw [digs_six, digs_six, digs_six, digs_six]
  unfold quad
  rw [if_neg (by simp), if_neg (by simp), num3]
  have e0 : ((a.toNat * 256 + b.toNat) * 256 + c.toNat) / 262144 % 64 = a.toNat / 4 := by omega
  have e1 : ((a.toNat * 256 + b.toNat) * 256 + c.toNat) / 4096 % 64 = 16 * (a.toNat % 4) + b.toNat / 16 := by omega
  have e2 : ((a.toNat * 256 + b.toNat) * 256 + c.toNat) / 64 % 64 = 4 * (b.toNat % 16) + c.toNat / 64 := by omega
  have e3 : ((a.toNat * 256 + b.toNat) * 256 + c.toNat) % 64 = c.toNat % 64 := by omega
  rw [e0, e1, e2, e3]
  have h0 := bits_hi2 a; have h1 := bits_lo2 a; have h2 := bits_hi4 b; have h3 := bits_lo4 b; have h4 := bits_hi6 c; have h5 := bits_lo6 c
  simp only [List.cons_append, List.nil_append, List.cons.injEq]
  refine ⟨by congr 1, by congr 1; omega, by congr 1; omega, by congr 1, trivial⟩
theorem digs_few (l : List Nat) (h : 0 < l.length) (h6 : l.length ≤ 6) : digs l = [dig (six l 6)] := by
  rw [digs_more h, List.drop_of_length_le h6, digs_nil]
theorem padTo4_app (x y : List UInt8) (h : x.length = 4) : padTo4 (x ++ y) = x ++ padTo4 y := by
  unfold padTo4; rw [List.length_append, h, show (4 + y.length) % 4 = y.length % 4 by omega, List.append_assoc]
theorem tail1 (a : UInt8) : padTo4 (digs (bitsL [a])) = quad [a] := by
  have ha := a.toNat_lt
  have h0 := bits_hi2 a; have h1 := bits_lo2 a
  show padTo4 (digs (bits8 a)) = _
  unfold bits8
  rw [digs_six, digs_few _ (by simp) (by simp)]
  have e : six [a.toNat / 2 % 2, a.toNat % 2] 6 = 16 * (a.toNat % 4) := by simp [six]; omega
  rw [e, h0]
  unfold quad
  rw [if_pos (by simp), if_pos (by simp), num1]
  have e0 : a.toNat * 256 * 256 / 262144 % 64 = a.toNat / 4 := by omega
  have e1 : a.toNat * 256 * 256 / 4096 % 64 = 16 * (a.toNat % 4) := by omega
  rw [e0, e1]; rfl
theorem tail2 (a b : UInt8) : padTo4 (digs (bitsL [a, b])) = quad [a, b] := by
  have ha := a.toNat_lt; have hb := b.toNat_lt
  have h0 := bits_hi2 a; have h1 := bits_lo2 a; have h2 := bits_hi4 b; have h3 := bits_lo4 b
  show padTo4 (digs (bits8 a ++ bits8 b)) = _
  unfold bits8
  simp only [List.cons_append, List.nil_append]
  rw [digs_six, digs_six, digs_few _ (by simp) (by simp)]
  have e : six [b.toNat / 8 % 2, b.toNat / 4 % 2, b.toNat / 2 % 2, b.toNat % 2] 6 = 4 * (b.toNat % 16) := by simp [six]; omega
  rw [e, h0]
  unfold quad
  rw [if_neg (by simp), if_pos (by simp), num2]
  have e0 : (a.toNat * 256 + b.toNat) * 256 / 262144 % 64 = a.toNat / 4 := by omega
  have e1 : (a.toNat * 256 + b.toNat) * 256 / 4096 % 64 = 16 * (a.toNat % 4) + b.toNat / 16 := by omega
  have e2 : (a.toNat * 256 + b.toNat) * 256 / 64 % 64 = 4 * (b.toNat % 16) := by omega
  have f1 : 32 * (a.toNat / 2 % 2) + 16 * (a.toNat % 2) + 8 * (b.toNat / 128 % 2) + 4 * (b.toNat / 64 % 2) + 2 * (b.toNat / 32 % 2) + b.toNat / 16 % 2 = 16 * (a.toNat % 4) + b.toNat / 16 := by omega
  rw [e0, e1, e2, f1]; rfl
theorem enc_law (n : Nat) : ∀ l : List UInt8, l.length ≤ n → padTo4 (digs (bitsL l)) = enc64 l := by
  induction n with
  | zero =>
    intro l h
    have : l = [] := List.eq_nil_of_length_eq_zero (by omega)
    subst this
    show padTo4 (digs []) = _
    rw [digs_nil]; rfl
  | succ n ih =>
    intro l h
    match l, h with
    | [], _ => show padTo4 (digs []) = _; rw [digs_nil]; rfl
    | [a], _ => exact tail1 a
    | [a, b], _ => exact tail2 a b
    | a :: b :: c :: l, h =>
      rw [digs_group, padTo4_app _ _ rfl, ih l (by simp at h; omega), enc64_step (a :: b :: c :: l) (by simp)]; rfl
end Nun
