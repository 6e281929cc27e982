/- A text read step by step from a place: plain lists, no program. -/
import Derived.Test.YtbkhgmehfgfmfaaGen
set_option linter.unusedVariables false
namespace Nun
/-- What steps from a place on give: 'none' where a step gives nothing. -/
def runAt {α : Type} (step : Nat → Option (List α × Nat)) (len : Nat) : Nat → Nat → Option (List α)
  | 0, _ => some []
  | f + 1, k => if k < len then match step k with
    | none => none
    | some (o, n) => (runAt step len f (k + n)).map (o ++ ·)
    else some []
theorem runAt_enough {α : Type} {step : Nat → Option (List α × Nat)} {len : Nat} (hn : ∀ k o n, step k = some (o, n) → 0 < n) :
    ∀ f f' k, len - k ≤ f → len - k ≤ f' → runAt step len f k = runAt step len f' k := by
  intro f
  induction f with
  | zero =>
    intro f' k h _
    cases f' with
    | zero => rfl
    | succ f' => simp only [runAt]; rw [if_neg (by omega)]
  | succ f ih =>
    intro f' k h h'
    by_cases hk : k < len
    · cases f' with
      | zero => omega
      | succ f' =>
        simp only [runAt]
        rw [if_pos hk]
        cases hs : step k with
        | none => simp [hk]
        | some p =>
          obtain ⟨o, n⟩ := p
          have := hn k o n hs
          simp only
          rw [ih f' (k + n) (by omega) (by omega), if_pos hk]
    · have e : runAt step len (f + 1) k = some [] := by simp only [runAt]; rw [if_neg hk]
      rw [e]
      cases f' with
      | zero => rfl
      | succ f' => simp only [runAt]; rw [if_neg hk]
def runFrom {α : Type} (step : Nat → Option (List α × Nat)) (len k : Nat) : Option (List α) := runAt step len (len - k) k
theorem runFrom_done {α : Type} {step : Nat → Option (List α × Nat)} {len k : Nat} (h : len ≤ k) : runFrom step len k = some [] := by
  unfold runFrom; rw [Nat.sub_eq_zero_of_le h]; rfl
theorem runFrom_none {α : Type} {step : Nat → Option (List α × Nat)} {len k : Nat} (h : k < len) (hs : step k = none) : runFrom step len k = none := by
  unfold runFrom
  obtain ⟨m, hm⟩ : ∃ m, len - k = m + 1 := ⟨len - k - 1, by omega⟩
  rw [hm]; simp only [runAt]; rw [if_pos h, hs]
theorem runFrom_some {α : Type} {step : Nat → Option (List α × Nat)} {len k n : Nat} {o : List α} (hn : ∀ k o n, step k = some (o, n) → 0 < n) (h : k < len) (hs : step k = some (o, n)) :
    runFrom step len k = (runFrom step len (k + n)).map (o ++ ·) := by
  unfold runFrom
  obtain ⟨m, hm⟩ : ∃ m, len - k = m + 1 := ⟨len - k - 1, by omega⟩
  rw [hm]; simp only [runAt]; rw [if_pos h, hs]
  have := hn k o n hs
  simp only
  rw [runAt_enough hn m (len - (k + n)) (k + n) (by omega) (Nat.le_refl _)]
theorem runFrom_step {α : Type} {step : Nat → Option (List α × Nat)} {len k n : Nat} {o acc : List α} {r : Option (List α)} (hn : ∀ k o n, step k = some (o, n) → 0 < n) (h : k < len) (hs : step k = some (o, n))
    (ha : r = (runFrom step len k).map (acc ++ ·)) : r = (runFrom step len (k + n)).map ((acc ++ o) ++ ·) := by
  rw [ha, runFrom_some hn h hs]; cases runFrom step len (k + n) <;> simp
/-- Steps that look alike behind a shift. -/
theorem runFrom_shift {α : Type} {step step' : Nat → Option (List α × Nat)} {len d : Nat} (hs : ∀ k, step' (d + k) = step k) : ∀ f k, runAt step' (d + len) f (d + k) = runAt step len f k := by
  intro f
  induction f with
  | zero => intro k; rfl
  | succ f ih =>
    intro k
    simp only [runAt]
    rw [hs]
    by_cases hk : k < len
    · rw [if_pos hk, if_pos (by omega)]
      cases step k with
      | none => rfl
      | some p => simp only; rw [Nat.add_assoc, ih]
    · rw [if_neg hk, if_neg (by omega)]
theorem runFrom_shift' {α : Type} {step step' : Nat → Option (List α × Nat)} {len d : Nat} (hs : ∀ k, step' (d + k) = step k) (k : Nat) : runFrom step' (d + len) (d + k) = runFrom step len k := by
  unfold runFrom
  rw [show d + len - (d + k) = len - k by omega]; exact runFrom_shift hs _ _
/-- A text begins with another at a place. -/
def begins (s w : List UInt8) (n : Int) : Bool := decide (0 ≤ n) && decide (n ≤ s.length) && w.isPrefixOf (s.drop n.toNat)
theorem begins_nat (s w : List UInt8) (k : Nat) (h : k ≤ s.length) : begins s w k = w.isPrefixOf (s.drop k) := by
  unfold begins; simp [h]
theorem begins_shift (a l w : List UInt8) (k : Nat) : begins (a ++ l) w ((a.length + k : Nat) : Int) = begins l w k := by
  unfold begins
  have e1 : (((a.length + k : Nat) : Int)).toNat = a.length + k := by omega
  have e3 : ((k : Int)).toNat = k := by omega
  have e4 : (a ++ l).drop (a.length + k) = l.drop k := by rw [← List.drop_drop]; simp
  rw [e1, e3, e4]
  have e5 : decide (((a.length + k : Nat) : Int) ≤ ((a ++ l).length : Int)) = decide ((k : Int) ≤ (l.length : Int)) := by
    rw [List.length_append]; by_cases h : k ≤ l.length
    · rw [decide_eq_true (by omega), decide_eq_true (by omega)]
    · rw [decide_eq_false (by omega), decide_eq_false (by omega)]
  have e6 : decide ((0 : Int) ≤ ((a.length + k : Nat) : Int)) = decide ((0 : Int) ≤ (k : Int)) := by
    rw [decide_eq_true (by omega), decide_eq_true (by omega)]
  rw [e5, e6]
end Nun
