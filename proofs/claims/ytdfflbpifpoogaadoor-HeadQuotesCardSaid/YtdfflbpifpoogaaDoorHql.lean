/- A quoted text stays one parameter (plain law). -/
import Derived.Test.YtdfflbpifpoogaaDoorHpb
set_option linter.unusedVariables false
namespace Nun
open Go
def escC (c : UInt8) : List UInt8 := if c = 34 ∨ c = 92 then [92, c] else [c]
def escL (l : List UInt8) : List UInt8 := l.flatMap escC
def quoteR (l : List UInt8) : List UInt8 := 34 :: (escL l ++ [34])
theorem escL_snoc (l : List UInt8) (c : UInt8) : escL (l ++ [c]) = escL l ++ escC c := by unfold escL; rw [List.flatMap_append]; simp
theorem escL_len : ∀ l : List UInt8, (escL l).length ≤ 2 * l.length
  | [] => Nat.le_refl _
  | c :: t => by
    have h := escL_len t
    have : escL (c :: t) = escC c ++ escL t := by simp [escL]
    rw [this, List.length_append, List.length_cons]
    have : (escC c).length ≤ 2 := by unfold escC; split <;> simp
    omega
theorem quoted_esc (r : List UInt8) : ∀ (l : List UInt8) (n : Nat), (∀ c ∈ l, 32 ≤ c ∧ c ≤ 126) → (escL l).length < n → quotedL n (escL l ++ 34 :: r) = some (l, r)
  | [], 0, _, h => by cases h
  | [], n + 1, _, _ => by simp [escL, quotedL]
  | c :: t, 0, _, h => by cases h
  | c :: t, n + 1, hl, hn => by
    have hc := hl c (by simp)
    have ht : ∀ d ∈ t, 32 ≤ d ∧ d ≤ 126 := fun d hd => hl d (by simp [hd])
    have e : escL (c :: t) = escC c ++ escL t := by simp [escL]
    have hr : ¬ (c < 32 ∨ 126 < c) := by
      rintro (h | h)
      · exact absurd hc.1 (UInt8.not_le.2 h)
      · exact absurd hc.2 (UInt8.not_le.2 h)
    rw [e] at hn ⊢
    by_cases hq : c = 34 ∨ c = 92
    · have e2 : escC c = [92, c] := by unfold escC; rw [if_pos hq]
      rw [e2] at hn ⊢
      rw [List.length_append, List.length_cons, List.length_singleton] at hn
      show quotedL (n + 1) (92 :: c :: (escL t ++ 34 :: r)) = _
      rw [quotedL.eq_def]
      dsimp only
      rw [if_neg (by decide), if_neg (by decide), if_pos rfl, if_pos hq, quoted_esc r t n ht (by omega)]
      rfl
    · have e2 : escC c = [c] := by unfold escC; rw [if_neg hq]
      rw [e2] at hn ⊢
      rw [List.length_append, List.length_singleton] at hn
      show quotedL (n + 1) (c :: (escL t ++ 34 :: r)) = _
      rw [quotedL.eq_def]
      dsimp only
      rw [if_neg (fun h => hq (.inl h)), if_neg hr, if_neg (fun h => hq (.inr h)), quoted_esc r t n ht (by omega)]
      rfl
theorem param_name (l r : List UInt8) (hl : ∀ c ∈ l, 32 ≤ c ∧ c ≤ 126) : paramL (32 :: 110 :: 97 :: 109 :: 101 :: 61 :: 34 :: (escL l ++ 34 :: r)) = some (([110, 97, 109, 101], l), r) := by
  unfold paramL
  have e1 : (32 :: 110 :: 97 :: 109 :: 101 :: 61 :: 34 :: (escL l ++ 34 :: r) : List UInt8).dropWhile blankC = 110 :: 97 :: 109 :: 101 :: 61 :: 34 :: (escL l ++ 34 :: r) := rfl
  have e2 : (110 :: 97 :: 109 :: 101 :: 61 :: 34 :: (escL l ++ 34 :: r) : List UInt8).takeWhile plainC = [110, 97, 109, 101] := rfl
  have e3 : (110 :: 97 :: 109 :: 101 :: 61 :: 34 :: (escL l ++ 34 :: r) : List UInt8).dropWhile plainC = 61 :: 34 :: (escL l ++ 34 :: r) := rfl
  rw [e1, e2, e3, if_pos (by decide)]
  have e4 : signL 61 (61 :: 34 :: (escL l ++ 34 :: r)) = some (34 :: (escL l ++ 34 :: r)) := by rw [signL, if_pos rfl]
  have e5 : signL 34 (34 :: (escL l ++ 34 :: r)) = some (escL l ++ 34 :: r) := by rw [signL, if_pos rfl]
  rw [e4]; dsimp only
  rw [e5]; dsimp only
  rw [quoted_esc r l _ hl (by rw [List.length_append]; omega)]
  rfl
theorem params_quote (l : List UInt8) (hl : ∀ c ∈ l, 32 ≤ c ∧ c ≤ 126) :
    paramsL ([116, 101, 120, 116, 47, 112, 108, 97, 105, 110, 59, 32, 110, 97, 109, 101, 61] ++ quoteR l ++ [32, 59, 32, 120, 61, 121]) = .ok [116, 101, 120, 116, 47, 112, 108, 97, 105, 110] [([110, 97, 109, 101], l), ([120], [121])] := by
  obtain ⟨X, hX⟩ : ∃ X, 32 :: 110 :: 97 :: 109 :: 101 :: 61 :: 34 :: (escL l ++ 34 :: [32, 59, 32, 120, 61, 121]) = X := ⟨_, rfl⟩
  have e0 : ([116, 101, 120, 116, 47, 112, 108, 97, 105, 110, 59, 32, 110, 97, 109, 101, 61] ++ quoteR l ++ [32, 59, 32, 120, 61, 121] : List UInt8) = 116 :: 101 :: 120 :: 116 :: 47 :: 112 :: 108 :: 97 :: 105 :: 110 :: 59 :: X := by
    rw [← hX]; simp [quoteR]
  rw [e0]
  have hp := param_name l [32, 59, 32, 120, 61, 121] hl
  rw [hX] at hp
  unfold paramsL
  have e1 : (116 :: 101 :: 120 :: 116 :: 47 :: 112 :: 108 :: 97 :: 105 :: 110 :: 59 :: X : List UInt8).dropWhile blankC = 116 :: 101 :: 120 :: 116 :: 47 :: 112 :: 108 :: 97 :: 105 :: 110 :: 59 :: X := rfl
  have e2 : (116 :: 101 :: 120 :: 116 :: 47 :: 112 :: 108 :: 97 :: 105 :: 110 :: 59 :: X : List UInt8).takeWhile plainC = [116, 101, 120, 116, 47, 112, 108, 97, 105, 110] := rfl
  have e3 : (116 :: 101 :: 120 :: 116 :: 47 :: 112 :: 108 :: 97 :: 105 :: 110 :: 59 :: X : List UInt8).dropWhile plainC = 59 :: X := rfl
  rw [e1, e2, e3]
  obtain ⟨m, hm⟩ : ∃ m, (116 :: 101 :: 120 :: 116 :: 47 :: 112 :: 108 :: 97 :: 105 :: 110 :: 59 :: X : List UInt8).length + 1 = m + 1 + 1 + 1 := ⟨X.length + 9, by simp only [List.length_cons]⟩
  rw [hm]
  have s1 : loopL (m + 1 + 1 + 1) (59 :: X) [] false = loopL (m + 1 + 1) [32, 59, 32, 120, 61, 121] [([110, 97, 109, 101], l)] false := by
    rw [loopL]
    have f1 : (59 :: X : List UInt8).dropWhile blankC = 59 :: X := rfl
    rw [f1, if_neg (by simp)]
    have f2 : signL 59 (59 :: X) = some X := by rw [signL, if_pos rfl]
    rw [f2]; dsimp only
    rw [hp]; rfl
  have s2 : loopL (m + 1 + 1) [32, 59, 32, 120, 61, 121] [([110, 97, 109, 101], l)] false = loopL (m + 1) [] [([110, 97, 109, 101], l), ([120], [121])] false := by
    rw [loopL]
    have f1 : ([32, 59, 32, 120, 61, 121] : List UInt8).dropWhile blankC = [59, 32, 120, 61, 121] := rfl
    rw [f1, if_neg (by simp)]
    have f2 : signL 59 ([59, 32, 120, 61, 121] : List UInt8) = some [32, 120, 61, 121] := rfl
    rw [f2]; dsimp only
    have f3 : paramL [32, 120, 61, 121] = some (([120], [121]), []) := by rfl
    rw [f3]; dsimp only
    have f4 : ([([110, 97, 109, 101], l)] : List Fld).any (fun q => foldL ([120] : List UInt8) == foldL q.1) = false := by
      rw [List.any_cons, List.any_nil]
      show (foldL ([120] : List UInt8) == foldL ([110, 97, 109, 101] : List UInt8) || false) = false
      decide
    rw [f4]; rfl
  have s3 : loopL (m + 1) [] [([110, 97, 109, 101], l), ([120], [121])] false = some ([([110, 97, 109, 101], l), ([120], [121])], false) := by
    rw [loopL, if_pos (show List.dropWhile blankC [] = [] from rfl)]
  rw [s1, s2, s3]
  rfl
theorem shown_byte (c : UInt8) : 32 ≤ 32 + c % 95 ∧ 32 + c % 95 ≤ 126 := by
  revert c
  have : ∀ i : Fin 256, 32 ≤ 32 + (⟨⟨i⟩⟩ : UInt8) % 95 ∧ 32 + (⟨⟨i⟩⟩ : UInt8) % 95 ≤ 126 := by decide +kernel
  exact fun c => this c.toBitVec.toFin
end Nun
