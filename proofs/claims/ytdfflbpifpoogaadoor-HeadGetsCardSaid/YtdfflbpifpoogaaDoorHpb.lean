/- Plain laws of a header's value: main text and parameters. -/
import Derived.Test.YtdfflbpifpoogaaDoorHpl
set_option linter.unusedVariables false
namespace Nun
open Go
def plainC (c : UInt8) : Bool := 33 ≤ c && c ≤ 126 && c != 59 && c != 61 && c != 34 && c != 92
def signL (c : UInt8) : List UInt8 → Option (List UInt8)
  | [] => none
  | d :: t => if d = c then some t else none
def slashOk : List UInt8 → Bool
  | [] => false
  | d :: _ => d == 34 || d == 92
/-- What stands up to a quote. -/
def quotedL : Nat → List UInt8 → Option (List UInt8 × List UInt8)
  | 0, _ => none
  | _ + 1, [] => none
  | n + 1, c :: t =>
    if c = 34 then some ([], t)
    else if c < 32 ∨ 126 < c then none
    else if c = 92 then (match t with
      | [] => none
      | d :: u => if d = 34 ∨ d = 92 then (quotedL n u).map fun p => (d :: p.1, p.2) else none)
    else (quotedL n t).map fun p => (c :: p.1, p.2)
def paramL (l : List UInt8) : Option (Fld × List UInt8) :=
  if nameL ((l.dropWhile blankC).takeWhile plainC) = true then
    match signL 61 ((l.dropWhile blankC).dropWhile plainC) with
    | none => none
    | some l3 => match signL 34 l3 with
      | some l4 => (quotedL (l4.length + 1) l4).map fun p => (((l.dropWhile blankC).takeWhile plainC, p.1), p.2)
      | none => if l3.takeWhile plainC = [] then none else some (((l.dropWhile blankC).takeWhile plainC, l3.takeWhile plainC), l3.dropWhile plainC)
  else none
def loopL : Nat → List UInt8 → List Fld → Bool → Option (List Fld × Bool)
  | 0, _, _, _ => none
  | n + 1, l, out, tw =>
    if l.dropWhile blankC = [] then some (out, tw)
    else match signL 59 (l.dropWhile blankC) with
      | none => none
      | some t => match paramL t with
        | none => none
        | some (p, r) => loopL n r (out ++ [p]) (tw || out.any fun q => foldL p.1 == foldL q.1)
inductive PRes | form | twice | ok (main : List UInt8) (out : List Fld)
def paramsL (l : List UInt8) : PRes :=
  match loopL (l.length + 1) ((l.dropWhile blankC).dropWhile plainC) [] false with
  | none => .form
  | some (out, tw) => if (l.dropWhile blankC).takeWhile plainC = [] then .form else if tw then .twice else .ok ((l.dropWhile blankC).takeWhile plainC) out
theorem dropWhile_len (p : UInt8 → Bool) : ∀ l : List UInt8, (l.dropWhile p).length ≤ l.length
  | [] => Nat.le_refl _
  | c :: l => by
    rw [List.dropWhile_cons]
    split
    · exact Nat.le_trans (dropWhile_len p l) (by simp)
    · exact Nat.le_refl _
theorem takeWhile_len (p : UInt8 → Bool) : ∀ l : List UInt8, (l.takeWhile p).length ≤ l.length
  | [] => Nat.le_refl _
  | c :: l => by
    rw [List.takeWhile_cons]
    split
    · simp; exact takeWhile_len p l
    · exact Nat.zero_le _
theorem signL_len {c : UInt8} : ∀ {l t : List UInt8}, signL c l = some t → l = c :: t
  | [], t, h => by cases h
  | d :: l, t, h => by
    replace h : (if d = c then some l else none) = some t := h
    by_cases hd : d = c
    · rw [if_pos hd] at h; rw [hd, Option.some.inj h]
    · rw [if_neg hd] at h; cases h
theorem quotedL_len : ∀ (n : Nat) (l : List UInt8) (p : List UInt8 × List UInt8), quotedL n l = some p → p.1.length + p.2.length + 1 ≤ l.length
  | 0, l, p, h => by cases h
  | n + 1, [], p, h => by cases h
  | n + 1, c :: t, p, h => by
    unfold quotedL at h
    split at h
    · cases h; simp
    · split at h
      · cases h
      · split at h
        · rcases t with _ | ⟨d, u⟩
          · cases h
          · dsimp only at h
            split at h
            · obtain ⟨q, hq, rfl⟩ := Option.map_eq_some_iff.1 h
              have := quotedL_len n u q hq
              simp only [List.length_cons]; omega
            · cases h
        · obtain ⟨q, hq, rfl⟩ := Option.map_eq_some_iff.1 h
          have := quotedL_len n t q hq
          simp only [List.length_cons]; omega
theorem quotedL_more : ∀ (n m : Nat) (l : List UInt8), l.length < n → l.length < m → quotedL n l = quotedL m l
  | 0, m, l, h, _ => absurd h (Nat.not_lt_zero _)
  | n + 1, 0, l, _, h => absurd h (Nat.not_lt_zero _)
  | n + 1, m + 1, [], _, _ => rfl
  | n + 1, m + 1, c :: t, h1, h2 => by
    simp only [List.length_cons] at h1 h2
    unfold quotedL
    rcases t with _ | ⟨d, u⟩
    · rw [quotedL_more n m [] (by simp only [List.length_nil] at h1 ⊢; omega) (by simp only [List.length_nil] at h2 ⊢; omega)]
    · dsimp only
      simp only [List.length_cons] at h1 h2
      rw [quotedL_more n m u (by omega) (by omega), quotedL_more n m (d :: u) (by simp only [List.length_cons]; omega) (by simp only [List.length_cons]; omega)]
theorem paramL_len {l : List UInt8} {q : Fld × List UInt8} (h : paramL l = some q) : q.2.length < l.length ∧ q.1.1.length ≤ l.length ∧ q.1.2.length ≤ l.length := by
  unfold paramL at h
  split at h
  · have hb := dropWhile_len blankC l
    have hp := dropWhile_len plainC (l.dropWhile blankC)
    have ht := takeWhile_len plainC (l.dropWhile blankC)
    rcases hs : signL 61 ((l.dropWhile blankC).dropWhile plainC) with _ | l3
    · rw [hs] at h; cases h
    · rw [hs] at h
      dsimp only at h
      have h3 := congrArg List.length (signL_len hs)
      rw [List.length_cons] at h3
      rcases hq : signL 34 l3 with _ | l4
      · rw [hq] at h
        dsimp only at h
        split at h
        · cases h
        · cases h
          have := dropWhile_len plainC l3
          have := takeWhile_len plainC l3
          dsimp only
          omega
      · rw [hq] at h
        dsimp only at h
        have h4 := congrArg List.length (signL_len hq)
        rw [List.length_cons] at h4
        obtain ⟨p, hp', rfl⟩ := Option.map_eq_some_iff.1 h
        have := quotedL_len _ _ _ hp'
        dsimp only
        omega
  · cases h
theorem index_set : ∀ c : UInt8, decide (Go.Lib.indexByte [59, 61, 34, 92] c < 0) = (c != 59 && c != 61 && c != 34 && c != 92) := by decide +kernel
theorem plain_split : ∀ c : UInt8, plainC c = (decide ((c.toNat : Int) > 32) && decide ((c.toNat : Int) < 127) && decide (Go.Lib.indexByte [59, 61, 34, 92] c < 0)) := by decide +kernel
theorem take_drop_while (p : UInt8 → Bool) : ∀ (l : List UInt8) (k : Nat), (∀ j (h : j < l.length), j < k → p l[j] = true) → (∀ h : k < l.length, p l[k] = false) → k ≤ l.length → l.takeWhile p = l.take k ∧ l.dropWhile p = l.drop k
  | [], k, _, _, hk => by
    obtain rfl : k = 0 := by simpa using hk
    exact ⟨rfl, rfl⟩
  | c :: l, 0, _, h, _ => by
    have := h (by simp)
    rw [List.getElem_cons_zero] at this
    rw [List.takeWhile_cons, List.dropWhile_cons, this]; simp
  | c :: l, k + 1, h1, h2, hk => by
    have hc := h1 0 (by simp) (by omega)
    rw [List.getElem_cons_zero] at hc
    have := take_drop_while p l k (fun j h hj => by
      have := h1 (j + 1) (by simp only [List.length_cons]; omega) (by omega)
      rwa [List.getElem_cons_succ] at this) (fun h => by
      have := h2 (by simp only [List.length_cons]; omega)
      rwa [List.getElem_cons_succ] at this) (by simp only [List.length_cons] at hk; omega)
    rw [List.takeWhile_cons, List.dropWhile_cons, hc]
    simp [this.1, this.2]
end Nun
