/- Plain law: what is sure of a code behind so many bytes is the code of the whole sixes of bits. -/
import Derived.Test.YtbkhgmehfgfmfaaDoorBin
set_option linter.unusedVariables false
namespace Nun
def whole6 (l : List Nat) : List UInt8 := if h : 6 ≤ l.length then dig (six l 6) :: whole6 (l.drop 6) else []
termination_by l.length
decreasing_by simp; omega
theorem whole6_more {l : List Nat} (h : 6 ≤ l.length) : whole6 l = dig (six l 6) :: whole6 (l.drop 6) := by rw [whole6, dif_pos h]
theorem whole6_few {l : List Nat} (h : ¬ 6 ≤ l.length) : whole6 l = [] := by rw [whole6, dif_neg h]
theorem whole6_len (n : Nat) : ∀ l : List Nat, l.length ≤ n → (whole6 l).length = l.length / 6 := by
  induction n with
  | zero => intro l h; rw [whole6_few (by omega)]; simp; omega
  | succ n ih =>
    intro l h
    by_cases h6 : 6 ≤ l.length
    · rw [whole6_more h6, List.length_cons, ih _ (by rw [List.length_drop]; omega), List.length_drop]; omega
    · rw [whole6_few h6]; simp; omega
theorem six_app (l r : List Nat) (i : Nat) (h : i ≤ l.length) : six (l ++ r) i = six l i := by
  induction i with
  | zero => rfl
  | succ i ih => rw [six, six, ih (by omega), List.getElem?_append_left (by omega)]
theorem whole6_app (n : Nat) : ∀ l r : List Nat, l.length ≤ n → ∃ t, whole6 (l ++ r) = whole6 l ++ t := by
  induction n with
  | zero => intro l r h; exact ⟨whole6 (l ++ r), by rw [whole6_few (l := l) (by omega)]; rfl⟩
  | succ n ih =>
    intro l r h
    by_cases h6 : 6 ≤ l.length
    · obtain ⟨t, ht⟩ := ih (l.drop 6) r (by rw [List.length_drop]; omega)
      refine ⟨t, ?_⟩
      rw [whole6_more h6, whole6_more (l := l ++ r) (by rw [List.length_append]; omega), six_app l r 6 h6, List.drop_append_of_le_length h6, ht]; rfl
    · exact ⟨whole6 (l ++ r), by rw [whole6_few h6]; rfl⟩
theorem whole6_drop (k : Nat) : ∀ l : List Nat, (whole6 l).drop k = whole6 (l.drop (6 * k)) := by
  induction k with
  | zero => intro l; simp
  | succ k ih =>
    intro l
    by_cases h6 : 6 ≤ l.length
    · rw [whole6_more h6, List.drop_succ_cons, ih, List.drop_drop]; congr 2; omega
    · rw [whole6_few h6, whole6_few (by rw [List.length_drop]; omega)]; simp
theorem digs_whole (n : Nat) : ∀ l : List Nat, l.length ≤ n → ∃ t, digs l = whole6 l ++ t := by
  induction n with
  | zero => intro l h; exact ⟨digs l, by rw [whole6_few (by omega)]; rfl⟩
  | succ n ih =>
    intro l h
    by_cases h6 : 6 ≤ l.length
    · obtain ⟨t, ht⟩ := ih (l.drop 6) (by rw [List.length_drop]; omega)
      exact ⟨t, by rw [whole6_more h6, digs_more (by omega), ht]; rfl⟩
    · exact ⟨digs l, by rw [whole6_few h6]; rfl⟩
theorem enc_whole (l : List UInt8) : ∃ t, enc64 l = whole6 (bitsL l) ++ t := by
  obtain ⟨t, ht⟩ := digs_whole _ (bitsL l) (Nat.le_refl _)
  exact ⟨t ++ List.replicate ((4 - (digs (bitsL l)).length % 4) % 4) 61, by rw [← enc_law _ l (Nat.le_refl _), ← List.append_assoc, ← ht]; rfl⟩
theorem bitsL_app (a b : List UInt8) : bitsL (a ++ b) = bitsL a ++ bitsL b := by unfold bitsL; rw [List.flatMap_append]
/-- How many bits of the text belong to the digit that is not sure. -/
def lead (p : Nat) : Nat := (6 - 8 * p % 6) % 6
theorem drop_ahead (x b : List UInt8) (k m : Nat) (h : k = 8 * x.length + m) : (bitsL (x ++ b)).drop k = (bitsL b).drop m := by
  have hl := bitsL_len x
  rw [bitsL_app, h, List.drop_append]
  rw [List.drop_of_length_le (by omega), List.nil_append]; congr 1; omega
theorem inner_law (p : Nat) (hp : p ≤ 2) (l : List UInt8) : innerL p l = whole6 ((bitsL l).drop (lead p)) := by
  obtain ⟨t, ht⟩ := enc_whole (List.replicate p 0 ++ l)
  have hw : (whole6 (bitsL (List.replicate p 0 ++ l))).length = (p + l.length) * 8 / 6 := by
    rw [whole6_len _ _ (Nat.le_refl _), bitsL_len, List.length_append, List.length_replicate]; omega
  have hd := whole6_drop ((4 * p + 2) / 3) (bitsL (List.replicate p 0 ++ l))
  rw [drop_ahead _ l _ (lead p) (by rw [List.length_replicate]; unfold lead; obtain rfl | rfl | rfl : p = 0 ∨ p = 1 ∨ p = 2 := by omega
                                    all_goals rfl)] at hd
  unfold innerL
  rw [ht, ← hd]
  generalize whole6 (bitsL (List.replicate p 0 ++ l)) = W at *
  by_cases ha : (4 * p + 2) / 3 ≤ W.length
  · rw [List.drop_append_of_le_length ha, List.take_append_of_le_length (by rw [List.length_drop]; omega), List.take_of_length_le (by rw [List.length_drop]; omega)]
  · rw [show (p + l.length) * 8 / 6 - (4 * p + 2) / 3 = 0 by omega, List.take_zero, List.drop_of_length_le (by omega)]
/-- Where a text stands in another one, that one's code has its sure digits. -/
theorem inner_stands (x b y : List UInt8) (hne : innerL (x.length % 3) b ≠ []) : ∃ t, (enc64 (x ++ b ++ y)).drop ((4 * x.length + 2) / 3) = innerL (x.length % 3) b ++ t := by
  obtain ⟨t, ht⟩ := enc_whole (x ++ (b ++ y))
  have hd := whole6_drop ((4 * x.length + 2) / 3) (bitsL (x ++ (b ++ y)))
  rw [drop_ahead _ _ _ (lead (x.length % 3)) (by
    unfold lead
    have h3 : x.length % 3 = 0 ∨ x.length % 3 = 1 ∨ x.length % 3 = 2 := by omega
    obtain h | h | h := h3 <;> rw [h] <;> simp <;> omega)] at hd
  have hlead : lead (x.length % 3) ≤ (bitsL b).length := by
    refine Decidable.byContradiction fun h => hne ?_
    rw [inner_law _ (by omega), List.drop_of_length_le (by omega), whole6_few (by simp)]
  obtain ⟨u, hu⟩ := whole6_app _ ((bitsL b).drop (lead (x.length % 3))) (bitsL y) (Nat.le_refl _)
  rw [bitsL_app b y, List.drop_append_of_le_length hlead, hu, ← inner_law _ (by omega)] at hd
  have hW : (4 * x.length + 2) / 3 ≤ (whole6 (bitsL (x ++ (b ++ y)))).length := by
    refine Decidable.byContradiction fun h => hne ?_
    rw [List.drop_of_length_le (by omega)] at hd
    exact (List.append_eq_nil_iff.1 hd.symm).1
  rw [List.append_assoc, ht, List.drop_append_of_le_length hW, hd]
  exact ⟨u ++ t, by simp⟩
end Nun
