/- A head is read the same whatever follows it (plain law). -/
import Derived.Test.YtdfflbpifpoogaaDoorHpl
set_option linter.unusedVariables false
namespace Nun
open Go
theorem crAt_more {l : List UInt8} {k n : Nat} (h : crAt l = some k) (hn : k + 2 ≤ n) (m : List UInt8) : crAt (l.take n ++ m) = some k := by
  have hl := crAt_lt h
  have e : ∀ i : Nat, i < k + 2 → (l.take n ++ m)[i]? = l[i]? := fun i hi => by
    rw [List.getElem?_append_left (by rw [List.length_take]; omega), List.getElem?_take_of_lt (by omega)]
  have h1 := crAt_some h
  refine crAt_of ⟨by rw [e k (by omega)]; exact h1.1, by rw [e (k + 1) (by omega)]; exact h1.2⟩ fun i hi => ?_
  rw [e i (by omega), e (i + 1) (by omega)]
  exact crAt_first h i hi
theorem run_more (n : Nat) : ∀ (l : List UInt8) (a : Nat) (st : List Fld × Bool) (f : List Fld) (t : Bool) (b : Nat), l.length ≤ n → runHead (itL l a) st = some (f, t, b) →
    a + 2 ≤ b ∧ b ≤ a + l.length ∧ ∀ m, runHead (itL (l.take (b - a) ++ m) a) st = some (f, t, b) := by
  induction n with
  | zero =>
    intro l a st f t b hl h
    rw [List.eq_nil_of_length_eq_zero (l := l) (by omega), itL_none rfl] at h; cases h
  | succ n ih =>
    intro l a st f t b hl h
    rcases hc : crAt l with _ | k
    · rw [itL_none hc] at h; cases h
    · have hlt := crAt_lt hc
      rw [itL_some hc, runHead] at h
      by_cases hk : k = 0
      · subst hk
        rw [if_pos (by simp)] at h
        cases h
        refine ⟨by omega, by omega, fun m => ?_⟩
        rw [itL_some (crAt_more hc (by omega) m), runHead, if_pos (by simp)]
      · have hne : l.take k ≠ [] := by
          intro h0
          have := congrArg List.length h0
          rw [List.length_take, List.length_nil] at this; omega
        rw [if_neg hne, if_neg hk] at h
        rcases hs : lineStep st (l.take k) with _ | st'
        · rw [hs] at h; cases h
        · rw [hs] at h
          obtain ⟨h1, h2, h3⟩ := ih (l.drop (k + 2)) (a + k + 2) st' f t b (by rw [List.length_drop]; omega) h
          rw [List.length_drop] at h2
          refine ⟨by omega, by omega, fun m => ?_⟩
          have hd : (l.take (b - a) ++ m).drop (k + 2) = (l.drop (k + 2)).take (b - (a + k + 2)) ++ m := by
            rw [List.drop_append_of_le_length (by rw [List.length_take]; omega), List.drop_take, show b - a - (k + 2) = b - (a + k + 2) by omega]
          have ht : (l.take (b - a) ++ m).take k = l.take k := by
            rw [List.take_append_of_le_length (by rw [List.length_take]; omega), List.take_take, Nat.min_eq_left (by omega)]
          rw [itL_some (crAt_more hc (by omega) m), runHead, ht, if_neg hne, if_neg hk, hs, hd]
          exact h3 m
theorem split_more {l : List UInt8} {F : List Fld} {b : Nat} (h : splitL l = .ok F b) : b ≤ l.length ∧ ∀ m, splitL (l.take b ++ m) = .ok F b := by
  unfold splitL at h ⊢
  rcases hr : runHead (itL l 0) ([], false) with _ | ⟨f, _ | _, b'⟩
  · rw [hr] at h; cases h
  · rw [hr] at h; cases h
    obtain ⟨_, h2, h3⟩ := run_more _ l 0 _ _ _ _ (Nat.le_refl _) hr
    exact ⟨by omega, fun m => by have h4 := h3 m; rw [Nat.sub_zero] at h4; rw [h4]⟩
  · rw [hr] at h; cases h
theorem runHead_len : ∀ (xs : List (List UInt8 × Nat)) (st : List Fld × Bool) (f : List Fld) (t : Bool) (b : Nat), runHead xs st = some (f, t, b) → f.length ≤ st.1.length + xs.length
  | [], _, _, _, _, h => by cases h
  | (ln, a) :: r, st, f, t, b, h => by
    rw [runHead] at h
    by_cases hl : ln = []
    · rw [if_pos hl] at h; cases h; exact Nat.le_add_right _ _
    · rw [if_neg hl] at h
      rcases hs : lineStep st ln with _ | st'
      · rw [hs] at h; cases h
      · rw [hs] at h
        have h1 := runHead_len r st' f t b h
        have h2 : st'.1.length ≤ st.1.length + 1 := by
          unfold lineStep at hs
          split at hs
          · cases hs
          · split at hs
            · split at hs
              · cases hs
              · cases hs
                simp
            · split at hs
              · cases hs
              · split at hs
                · cases hs; simp
                · cases hs
        rw [List.length_cons]; omega
theorem splitL_len {l : List UInt8} {F : List Fld} {b : Nat} (h : splitL l = .ok F b) : F.length ≤ l.length := by
  unfold splitL at h
  rcases hr : runHead (itL l 0) ([], false) with _ | ⟨f, _ | _, b'⟩
  · rw [hr] at h; cases h
  · rw [hr] at h; cases h
    have h1 := runHead_len _ _ _ _ _ hr
    have h2 := itL_count _ l 0 (Nat.le_refl _)
    rw [List.length_map]; simp only [List.length_nil] at h1; omega
  · rw [hr] at h; cases h
end Nun
