/- Quoted-printable, plain lists: what is written comes back; its lines are short and end without a blank. -/
import Derived.Test.YtbkhgmehfgfmfaaQpj
set_option linter.unusedVariables false
namespace Nun
theorem getElem?_shift {α : Type} (a l : List α) (k : Nat) : (a ++ l)[a.length + k]? = l[k]? := by rw [List.getElem?_append_right (by omega)]; congr 1; omega
theorem hexAt_shift (a l : List UInt8) (k : Nat) : hexAt (a ++ l) (((a.length + k : Nat) : Int) + 1) = hexAt l ((k : Int) + 1) := by
  unfold hexAt
  have e2 : (((a.length + k : Nat) : Int) + 1).toNat = a.length + (k + 1) := by omega
  have e4 : ((k : Int) + 1).toNat = k + 1 := by omega
  rw [if_neg (by omega), if_neg (by omega), e2, e4, getElem?_shift, show a.length + (k + 1) + 1 = a.length + (k + 1 + 1) by omega, getElem?_shift]
theorem dstep_shift (a l : List UInt8) (k : Nat) : dstep (a ++ l) (a.length + k) = dstep l k := by
  unfold dstep
  rw [getElem?_shift, begins_shift, begins_shift, hexAt_shift]
theorem decL_block {b l o : List UInt8} (hb : 0 < b.length) (h : dstep (b ++ l) 0 = some (o, b.length)) : decL (b ++ l) = (decL l).map (o ++ ·) := by
  unfold decL
  rw [runFrom_some (dstep_pos _) (by rw [List.length_append]; omega) h, List.length_append, show 0 + b.length = b.length + 0 by omega, runFrom_shift' (dstep_shift b l)]
theorem begins_zero (s w : List UInt8) : begins s w ((0 : Nat) : Int) = w.isPrefixOf s := begins_nat s w 0 (Nat.zero_le _)
theorem dec_nl (l : List UInt8) : decL ([13, 10] ++ l) = (decL l).map ([10] ++ ·) := decL_block (by simp) (by
  unfold dstep; rw [begins_zero]; simp [List.isPrefixOf])
theorem dec_soft (l : List UInt8) : decL ([61, 13, 10] ++ l) = decL l := by
  have := decL_block (b := [61, 13, 10]) (l := l) (o := []) (by simp) (by
    unfold dstep; rw [begins_zero, begins_zero]; simp [List.isPrefixOf])
  rw [this]; cases decL l <;> simp
theorem dec_one (c : UInt8) (l : List UInt8) (h : plainB c = true ∨ c = 32 ∨ c = 9) : decL ([c] ++ l) = (decL l).map ([c] ++ ·) := decL_block (by simp) (by
  have h13 : ¬ c = 13 := by rintro rfl; revert h; decide
  have h61 : ¬ c = 61 := by rintro rfl; revert h; decide
  unfold dstep; rw [begins_zero, begins_zero]
  have e1 : (([13, 10] : List UInt8).isPrefixOf ([c] ++ l)) = false := by simp [List.isPrefixOf, beq_eq_false_iff_ne.2 (fun h => h13 (Eq.symm h))]
  have e2 : (([61, 13, 10] : List UInt8).isPrefixOf ([c] ++ l)) = false := by simp [List.isPrefixOf, beq_eq_false_iff_ne.2 (fun h => h61 (Eq.symm h))]
  rw [e1, e2]
  rcases h with h | h | h <;> simp [h, h61]
  all_goals decide)
theorem hex_back : ∀ c : UInt8, hex2 (hexd (c / 16)) (hexd (c % 16)) = some c := by decide +kernel
theorem hexd_ne : ∀ c : UInt8, (hexd (c / 16) == 13) = false := by decide +kernel
theorem dec_three (c : UInt8) (l : List UInt8) : decL ((61 :: pair c) ++ l) = (decL l).map ([c] ++ ·) := decL_block (by simp) (by
  unfold dstep; rw [begins_zero, begins_zero]
  have e1 : (([13, 10] : List UInt8).isPrefixOf ((61 :: pair c) ++ l)) = false := by simp [List.isPrefixOf]
  have e2 : (([61, 13, 10] : List UInt8).isPrefixOf ((61 :: pair c) ++ l)) = false := by
    have := hexd_ne c
    simp [List.isPrefixOf, pair]
    intro h; rw [← h] at this; exact absurd this (by decide)
  rw [e1, e2]
  have e3 : hexAt ((61 :: pair c) ++ l) (((0 : Nat) : Int) + 1) = some c := by
    unfold hexAt; rw [if_neg (by omega)]; simp [pair, hex_back]
  simp only [List.cons_append, List.getElem?_cons_zero, Bool.false_eq_true, if_false, if_true]
  rw [List.cons_append] at e3
  rw [e3]; simp [pair])
theorem dec_piece (c : UInt8) (t l : List UInt8) : decL (piece c t ++ l) = (decL l).map ([c] ++ ·) := by
  unfold piece
  split
  · rename_i h
    refine dec_one c l ?_
    simp at h
    rcases h with h | ⟨h, _⟩
    · exact .inl h
    · exact .inr h
  · exact dec_three c l
theorem decL_encL (s : List UInt8) : ∀ line, decL (encL line s) = some s := by
  induction s with
  | nil => intro line; rfl
  | cons c t ih =>
    intro line
    unfold encL
    split
    · rename_i h
      rw [show 13 :: 10 :: encL 0 t = [13, 10] ++ encL 0 t from rfl, dec_nl, ih, h]; rfl
    · split
      · rw [dec_soft, dec_piece, ih]; rfl
      · rw [dec_piece, ih]; rfl

/-- The lines of a text that mail may carry: 'prev' the byte before, 'line' how many bytes the line has. -/
def nblank : Option UInt8 → Bool | some c => c != 32 && c != 9 | none => true
def chk : Option UInt8 → Nat → List UInt8 → Bool
  | prev, _, [] => nblank prev
  | prev, line, c :: t =>
    if c = 13 then (t.head? == some 10) && nblank prev && chk (some 13) line t
    else if c = 10 then (prev == some 13) && chk (some 10) 0 t
    else decide (line + 1 ≤ 76) && decide (c ≤ 126) && (decide (32 ≤ c) || c == 9) && chk (some c) (line + 1) t
theorem chk_one {c : UInt8} {prev : Option UInt8} {line : Nat} {l : List UInt8} (hc : c ≠ 13 ∧ c ≠ 10 ∧ c ≤ 126 ∧ (32 ≤ c ∨ c = 9)) (hl : line + 1 ≤ 76) : chk prev line (c :: l) = chk (some c) (line + 1) l := by
  obtain ⟨h1, h2, h3, h4⟩ := hc
  conv => lhs; unfold chk
  rw [if_neg h1, if_neg h2]
  rcases h4 with h4 | h4 <;> simp [hl, h3, h4]
theorem plain_ok : ∀ c : UInt8, plainB c = true → c ≠ 13 ∧ c ≠ 10 ∧ c ≤ 126 ∧ (32 ≤ c ∨ c = 9) ∧ c ≠ 32 ∧ c ≠ 9 := by decide +kernel
theorem hexd_ok : ∀ c : UInt8, plainB (hexd (c / 16)) = true ∧ plainB (hexd (c % 16)) = true := by decide +kernel
theorem chk_piece (c : UInt8) (t : List UInt8) (hc : c ≠ 10) {prev : Option UInt8} {line : Nat} (hl : line + (piece c t).length ≤ 75) (l : List UInt8)
    (h : ∀ p, (nblank p = true ∨ nextOk t = true) → chk p (line + (piece c t).length) l = true) : chk prev line (piece c t ++ l) = true := by
  revert hl h
  unfold piece
  split
  · rename_i hp
    intro hl h
    simp at hp hl h
    rw [List.singleton_append]
    rcases hp with hp | ⟨hb, hn⟩
    · obtain ⟨a1, a2, a3, a4, a5, a6⟩ := plain_ok c hp
      rw [chk_one ⟨a1, a2, a3, a4⟩ (by omega)]
      exact h _ (.inl (by simp [nblank, a5, a6]))
    · rw [chk_one ?_ (by omega)]
      · exact h _ (.inr hn)
      · rcases hb with rfl | rfl <;> decide
  · intro hl h
    simp [pair] at hl h
    have hx := hexd_ok c
    obtain ⟨a1, a2, a3, a4, a5, a6⟩ := plain_ok _ hx.1
    obtain ⟨b1, b2, b3, b4, b5, b6⟩ := plain_ok _ hx.2
    simp only [pair, List.cons_append, List.nil_append]
    rw [chk_one (by decide) (by omega), chk_one ⟨a1, a2, a3, a4⟩ (by omega), chk_one ⟨b1, b2, b3, b4⟩ (by omega)]
    exact h _ (.inl (by simp [nblank, b5, b6]))
theorem chk_enc (s : List UInt8) : ∀ (prev : Option UInt8) (line : Nat), line ≤ 75 → (nblank prev = true ∨ nextOk s = true) → chk prev line (encL line s) = true := by
  induction s with
  | nil =>
    intro prev line _ h
    rcases h with h | h
    · exact h
    · cases h
  | cons c t ih =>
    intro prev line hl hp
    unfold encL
    split
    · rename_i h
      have hb : nblank prev = true := by
        rcases hp with hp | hp
        · exact hp
        · simp [nextOk, h] at hp
      unfold chk; rw [if_pos rfl]
      simp only [hb, List.head?_cons, beq_self_eq_true, Bool.true_and]
      unfold chk; rw [if_neg (by decide), if_pos rfl]
      simp only [beq_self_eq_true, Bool.true_and]
      exact ih _ _ (by omega) (.inl (by decide))
    · rename_i h
      have h3 := piece_len c t
      split
      · simp only [List.cons_append, List.nil_append]
        rw [chk_one (by decide) (by omega)]
        unfold chk; rw [if_pos rfl]
        simp only [List.head?_cons, beq_self_eq_true, Bool.true_and, show nblank (some 61) = true by decide]
        unfold chk; rw [if_neg (by decide), if_pos rfl]
        simp only [beq_self_eq_true, Bool.true_and]
        exact chk_piece c t h (by omega) _ (fun p hp => by rw [Nat.zero_add]; exact ih p _ (by omega) hp)
      · exact chk_piece c t h (by omega) _ (fun p hp => ih p _ (by omega) hp)
def prevAt (x : List UInt8) : Nat → Option UInt8 | 0 => none | k + 1 => x[k]?
theorem chk_at {x : List UInt8} {k : Nat} (hk : k < x.length) {prev : Option UInt8} {line : Nat} (h : chk prev line (x.drop k) = true) :
    (x[k] = 13 ∧ (∃ h : k + 1 < x.length, x[k + 1] = 10) ∧ nblank prev = true ∧ chk (some 13) line (x.drop (k + 1)) = true) ∨
    (x[k] ≠ 13 ∧ x[k] = 10 ∧ prev = some 13 ∧ chk (some 10) 0 (x.drop (k + 1)) = true) ∨
    (x[k] ≠ 13 ∧ x[k] ≠ 10 ∧ line + 1 ≤ 76 ∧ x[k] ≤ 126 ∧ (32 ≤ x[k] ∨ x[k] = 9) ∧ chk (some x[k]) (line + 1) (x.drop (k + 1)) = true) := by
  rw [List.drop_eq_getElem_cons hk] at h
  unfold chk at h
  split at h
  · rename_i h13
    simp only [Bool.and_eq_true, beq_iff_eq] at h
    obtain ⟨⟨h1, h2⟩, h3⟩ := h
    refine .inl ⟨h13, ?_, h2, h3⟩
    rw [List.head?_drop] at h1
    obtain ⟨hlt, he⟩ := List.getElem?_eq_some_iff.1 h1
    exact ⟨hlt, he⟩
  · rename_i h13
    split at h
    · rename_i h10
      simp only [Bool.and_eq_true, beq_iff_eq] at h
      exact .inr (.inl ⟨h13, h10, h.1, h.2⟩)
    · rename_i h10
      simp only [Bool.and_eq_true, Bool.or_eq_true, beq_iff_eq, decide_eq_true_eq] at h
      exact .inr (.inr ⟨h13, h10, h.1.1.1, h.1.1.2, h.1.2, h.2⟩)
end Nun
