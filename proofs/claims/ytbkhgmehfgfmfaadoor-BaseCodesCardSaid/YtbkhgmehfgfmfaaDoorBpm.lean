/- Plain laws of base 64: decoding is the inverse of coding. -/
import Derived.Test.YtbkhgmehfgfmfaaDoorBpl
set_option linter.unusedVariables false
namespace Nun
theorem val_dig' : ∀ i : Fin 64, val64 (dig i.1) = some i.1 := by decide +kernel
theorem val_dig {n : Nat} (h : n < 64) : val64 (dig n) = some n := val_dig' ⟨n, h⟩
theorem dig_ne' : ∀ i : Fin 64, dig i.1 ≠ 61 := by decide +kernel
theorem dig_ne {n : Nat} (h : n < 64) : dig n ≠ 61 := dig_ne' ⟨n, h⟩
theorem dig_val {c : UInt8} {n : Nat} (h : val64 c = some n) : dig n = c := by
  have : ∀ c : UInt8, (match val64 c with | some n => dig n == c | none => true) = true := by decide +kernel
  have := this c; rw [h] at this; simpa using this
theorem fourN4 {p0 p1 p2 p3 : UInt8} {x0 x1 x2 x3 : Nat} (h0 : val64 p0 = some x0) (h1 : val64 p1 = some x1) (h2 : val64 p2 = some x2) (h3 : val64 p3 = some x3) :
    fourN [p0, p1, p2, p3] 4 4 = some (((x0 * 64 + x1) * 64 + x2) * 64 + x3) := by simp [fourN, h0, h1, h2, h3]
theorem fourN3 {p0 p1 p2 p3 : UInt8} {x0 x1 x2 : Nat} (h0 : val64 p0 = some x0) (h1 : val64 p1 = some x1) (h2 : val64 p2 = some x2) :
    fourN [p0, p1, p2, p3] 3 4 = some (((x0 * 64 + x1) * 64 + x2) * 64) := by simp [fourN, h0, h1, h2]
theorem fourN2 {p0 p1 p2 p3 : UInt8} {x0 x1 : Nat} (h0 : val64 p0 = some x0) (h1 : val64 p1 = some x1) :
    fourN [p0, p1, p2, p3] 2 4 = some (((x0 * 64 + x1) * 64) * 64) := by simp [fourN, h0, h1]
theorem dec64_quad (x l : List UInt8) : dec64 (quad x ++ l) = if (fourV (quad x) l.isEmpty).2 then (dec64 l).map ((fourV (quad x) l.isEmpty).1 ++ ·) else none := rfl
theorem u8_eq (a : UInt8) (n : Nat) (h : n % 256 = a.toNat) : UInt8.ofNat n = a := by
  apply UInt8.toNat_inj.1; simp [h]
theorem fourV_quad3 (a b c : UInt8) (l : List UInt8) (last : Bool) : fourV (quad (a :: b :: c :: l)) last = ([a, b, c], true) := by
  have ha := a.toNat_lt; have hb := b.toNat_lt; have hc := c.toNat_lt
  have hq : quad (a :: b :: c :: l) = [dig (num (a :: b :: c :: l) 3 / 262144 % 64), dig (num (a :: b :: c :: l) 3 / 4096 % 64), dig (num (a :: b :: c :: l) 3 / 64 % 64), dig (num (a :: b :: c :: l) 3 % 64)] := by
    unfold quad; rw [if_neg (by simp), if_neg (by simp)]
  rw [hq, num3]
  generalize hN : (a.toNat * 256 + b.toNat) * 256 + c.toNat = N
  have hK : fourK [dig (N / 262144 % 64), dig (N / 4096 % 64), dig (N / 64 % 64), dig (N % 64)] last = 4 := by
    unfold fourK; rw [if_neg]; intro h; exact dig_ne (n := N % 64) (by omega) (by simpa using h.2)
  unfold fourV
  rw [hK, fourN4 (val_dig (by omega)) (val_dig (by omega)) (val_dig (by omega)) (val_dig (by omega))]
  have e : ((N / 262144 % 64 * 64 + N / 4096 % 64) * 64 + N / 64 % 64) * 64 + N % 64 = N := by omega
  simp only [e]
  rw [u8_eq a (N / 65536) (by omega), u8_eq b (N / 256) (by omega), u8_eq c N (by omega)]
  simp
  omega
theorem fourV_quad2 (a b : UInt8) : fourV (quad [a, b]) true = ([a, b], true) := by
  have ha := a.toNat_lt; have hb := b.toNat_lt
  have hq : quad [a, b] = [dig (num [a, b] 3 / 262144 % 64), dig (num [a, b] 3 / 4096 % 64), dig (num [a, b] 3 / 64 % 64), 61] := by
    unfold quad; rw [if_neg (by simp), if_pos (by simp)]
  rw [hq, num2]
  generalize hN : (a.toNat * 256 + b.toNat) * 256 = N
  have hK : fourK [dig (N / 262144 % 64), dig (N / 4096 % 64), dig (N / 64 % 64), 61] true = 3 := by
    unfold fourK; rw [if_pos (by simp), if_neg]; intro h; exact dig_ne (n := N / 64 % 64) (by omega) (by simpa using h)
  unfold fourV
  rw [hK, fourN3 (val_dig (by omega)) (val_dig (by omega)) (val_dig (by omega))]
  have e : ((N / 262144 % 64 * 64 + N / 4096 % 64) * 64 + N / 64 % 64) * 64 = N := by omega
  simp only [e]
  rw [u8_eq a (N / 65536) (by omega), u8_eq b (N / 256) (by omega)]
  simp
  omega
theorem fourV_quad1 (a : UInt8) : fourV (quad [a]) true = ([a], true) := by
  have ha := a.toNat_lt
  have hq : quad [a] = [dig (num [a] 3 / 262144 % 64), dig (num [a] 3 / 4096 % 64), 61, 61] := by
    unfold quad; rw [if_pos (by simp), if_pos (by simp)]
  rw [hq, num1]
  generalize hN : a.toNat * 256 * 256 = N
  have hK : fourK [dig (N / 262144 % 64), dig (N / 4096 % 64), 61, 61] true = 2 := by
    unfold fourK; rw [if_pos (by simp), if_pos (by simp)]
  unfold fourV
  rw [hK, fourN2 (val_dig (by omega)) (val_dig (by omega))]
  have e : ((N / 262144 % 64 * 64 + N / 4096 % 64) * 64) * 64 = N := by omega
  simp only [e]
  rw [u8_eq a (N / 65536) (by omega)]
  simp
  omega
theorem dec_enc (n : Nat) : ∀ l : List UInt8, l.length ≤ n → dec64 (enc64 l) = some l := by
  induction n with
  | zero =>
    intro l h
    have : l = [] := List.eq_nil_of_length_eq_zero (by omega)
    subst this; rfl
  | succ n ih =>
    intro l h
    match l, h with
    | [], _ => rfl
    | [a], _ => show dec64 (quad [a] ++ []) = _; rw [dec64_quad]; rw [show ([] : List UInt8).isEmpty = true from rfl, fourV_quad1]; rfl
    | [a, b], _ => show dec64 (quad [a, b] ++ []) = _; rw [dec64_quad]; rw [show ([] : List UInt8).isEmpty = true from rfl, fourV_quad2]; rfl
    | a :: b :: c :: l, h =>
      show dec64 (quad [a, b, c] ++ enc64 l) = _
      rw [dec64_quad, fourV_quad3, ih l (by simp at h; omega)]; rfl
theorem num_three (n : Nat) (h : n < 16777216) : num [UInt8.ofNat (n / 65536), UInt8.ofNat (n / 256), UInt8.ofNat n] 3 = n := by
  rw [num3]; simp; omega
theorem num_two (n : Nat) (h : n < 16777216) (h0 : n % 256 = 0) : num [UInt8.ofNat (n / 65536), UInt8.ofNat (n / 256)] 3 = n := by
  rw [num2]; simp; omega
theorem num_one (n : Nat) (h : n < 16777216) (h0 : n % 65536 = 0) : num [UInt8.ofNat (n / 65536)] 3 = n := by
  rw [num1]; simp; omega
theorem fourK_two {p0 p1 p2 p3 : UInt8} {last : Bool} (h : fourK [p0, p1, p2, p3] last = 2) : last = true ∧ p2 = 61 ∧ p3 = 61 := by
  unfold fourK at h; split at h
  · rename_i h1; split at h
    · rename_i h2; exact ⟨h1.1, by simpa using h2, by simpa using h1.2⟩
    · omega
  · omega
theorem fourK_three {p0 p1 p2 p3 : UInt8} {last : Bool} (h : fourK [p0, p1, p2, p3] last = 3) : last = true ∧ p3 = 61 := by
  unfold fourK at h; split at h
  · rename_i h1; exact ⟨h1.1, by simpa using h1.2⟩
  · omega
theorem quad_four {p0 p1 p2 p3 : UInt8} {last : Bool} {y : List UInt8} (h : fourV [p0, p1, p2, p3] last = (y, true)) : quad y = [p0, p1, p2, p3] ∧ y ≠ [] ∧ (last = false → ∃ a b c, y = [a, b, c]) := by
  unfold fourV at h
  rcases h0 : val64 p0 with _ | x0
  · simp [fourN, h0] at h
    rcases fourK_cases [p0, p1, p2, p3] last with hk | hk | hk <;> simp [hk] at h
  rcases h1 : val64 p1 with _ | x1
  · simp [fourN, h0, h1] at h
    rcases fourK_cases [p0, p1, p2, p3] last with hk | hk | hk <;> simp [hk] at h
  have l0 := val64_lt _ _ h0; have l1 := val64_lt _ _ h1
  have d0 := dig_val h0; have d1 := dig_val h1
  rcases fourK_cases [p0, p1, p2, p3] last with hk | hk | hk
  · obtain ⟨rfl, rfl, rfl⟩ := fourK_two hk
    rw [hk, fourN2 h0 h1] at h
    generalize hN : ((x0 * 64 + x1) * 64) * 64 = N at h
    simp only [Prod.mk.injEq, beq_iff_eq] at h
    obtain ⟨hy, h00⟩ := h
    have hy' : y = [UInt8.ofNat (N / 65536)] := hy.symm
    subst hy'
    refine ⟨?_, by simp, by simp⟩
    unfold quad
    rw [if_pos (by simp), if_pos (by simp), num_one N (by omega) (by simpa using h00), ← d0, ← d1]
    have e0 : N / 262144 % 64 = x0 := by omega
    have e1 : N / 4096 % 64 = x1 := by omega
    rw [e0, e1]
  · obtain ⟨rfl, rfl⟩ := fourK_three hk
    rcases h2 : val64 p2 with _ | x2
    · rw [hk] at h; simp [fourN, h0, h1, h2] at h
    have l2 := val64_lt _ _ h2; have d2 := dig_val h2
    rw [hk, fourN3 h0 h1 h2] at h
    generalize hN : ((x0 * 64 + x1) * 64 + x2) * 64 = N at h
    simp only [Prod.mk.injEq, beq_iff_eq] at h
    obtain ⟨hy, h00⟩ := h
    have hy' : y = [UInt8.ofNat (N / 65536), UInt8.ofNat (N / 256)] := hy.symm
    subst hy'
    refine ⟨?_, by simp, by simp⟩
    unfold quad
    rw [if_neg (by simp), if_pos (by simp), num_two N (by omega) (by simpa using h00), ← d0, ← d1, ← d2]
    have e0 : N / 262144 % 64 = x0 := by omega
    have e1 : N / 4096 % 64 = x1 := by omega
    have e2 : N / 64 % 64 = x2 := by omega
    rw [e0, e1, e2]
  · rcases h2 : val64 p2 with _ | x2
    · rw [hk] at h; simp [fourN, h0, h1, h2] at h
    rcases h3 : val64 p3 with _ | x3
    · rw [hk] at h; simp [fourN, h0, h1, h2, h3] at h
    have l2 := val64_lt _ _ h2; have d2 := dig_val h2
    have l3 := val64_lt _ _ h3; have d3 := dig_val h3
    rw [hk, fourN4 h0 h1 h2 h3] at h
    generalize hN : ((x0 * 64 + x1) * 64 + x2) * 64 + x3 = N at h
    simp only [Prod.mk.injEq, beq_iff_eq] at h
    obtain ⟨hy, h00⟩ := h
    have hy' : y = [UInt8.ofNat (N / 65536), UInt8.ofNat (N / 256), UInt8.ofNat N] := hy.symm
    subst hy'
    refine ⟨?_, by simp, fun _ => ⟨_, _, _, rfl⟩⟩
    unfold quad
    rw [if_neg (by simp), if_neg (by simp), num_three N (by omega), ← d0, ← d1, ← d2, ← d3]
    have e0 : N / 262144 % 64 = x0 := by omega
    have e1 : N / 4096 % 64 = x1 := by omega
    have e2 : N / 64 % 64 = x2 := by omega
    have e3 : N % 64 = x3 := by omega
    rw [e0, e1, e2, e3]
theorem enc_dec (n : Nat) : ∀ l x : List UInt8, l.length ≤ n → dec64 l = some x → enc64 x = l := by
  induction n with
  | zero =>
    intro l x h hd
    have : l = [] := List.eq_nil_of_length_eq_zero (by omega)
    subst this
    simp [dec64] at hd; subst hd; rfl
  | succ n ih =>
    intro l x h hd
    match l, h, hd with
    | [], _, hd => simp [dec64] at hd; subst hd; rfl
    | [_], _, hd => simp [dec64] at hd
    | [_, _], _, hd => simp [dec64] at hd
    | [_, _, _], _, hd => simp [dec64] at hd
    | a :: b :: c :: d :: l, h, hd =>
      rw [dec64] at hd
      rcases hf : fourV [a, b, c, d] l.isEmpty with ⟨y, ok⟩
      rw [hf] at hd
      cases ok
      · simp at hd
      simp only [if_true] at hd
      rcases hz : dec64 l with _ | z
      · rw [hz] at hd; simp at hd
      rw [hz] at hd
      simp at hd
      obtain ⟨hq, hne, h3⟩ := quad_four hf
      have iz := ih l z (by simp at h; omega) hz
      subst hd
      rcases hl : l.isEmpty with _ | _
      · obtain ⟨a', b', c', rfl⟩ := h3 hl
        show quad [a', b', c'] ++ enc64 z = _
        rw [hq, iz]; rfl
      · have : l = [] := by simpa using hl
        subst this
        simp [dec64] at hz
        subst hz
        have hlen := fourV_len [a, b, c, d] true
        rw [show ([] : List UInt8).isEmpty = true from rfl] at hf
        rw [hf] at hlen
        rw [List.append_nil, enc64_step y hne, List.drop_of_length_le hlen, hq]; rfl
end Nun
