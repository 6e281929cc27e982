/- Plain laws of a letter's head: lines, names, blanks, parameters. -/
import Derived.Test.YtdfflbpifpoogaaDoorGen
import Derived.Lib.IndexMore
import Derived.Lib.SlTrimSet
set_option linter.unusedVariables false
namespace Nun
def blankC (c : UInt8) : Bool := c == 32 || c == 9
def nameC (c : UInt8) : Bool := (65 ≤ c && c ≤ 90) || (97 ≤ c && c ≤ 122) || (48 ≤ c && c ≤ 57) || c == 45
def nameL (l : List UInt8) : Bool := !l.isEmpty && decide (l.length ≤ 32) && l.all nameC
def shownC (c : UInt8) : Bool := c == 9 || (32 ≤ c && c ≤ 126)
def foldC (c : UInt8) : UInt8 := if 65 ≤ c && c ≤ 90 then c + 32 else c
def foldL (l : List UInt8) : List UInt8 := l.map foldC
def trimEnd (l : List UInt8) : List UInt8 := (l.reverse.dropWhile blankC).reverse
def trimB (l : List UInt8) : List UInt8 := trimEnd (l.dropWhile blankC)
/-- The place of the first line's end. -/
def crAt : List UInt8 → Option Nat
  | [] => none
  | c :: r => if c = 13 ∧ r.head? = some 10 then some 0 else (crAt r).map (· + 1)
theorem crAt_lt : ∀ {l : List UInt8} {k : Nat}, crAt l = some k → k + 2 ≤ l.length
  | c :: r, k, h => by
    rw [crAt] at h
    split at h
    · rename_i hc
      cases h
      match r, hc with
      | d :: r, _ => simp
    · rcases hr : crAt r with _ | j
      · rw [hr] at h; cases h
      · rw [hr] at h
        have := crAt_lt hr
        cases h; simp; omega
theorem crAt_some : ∀ {l : List UInt8} {k : Nat}, crAt l = some k → l[k]? = some 13 ∧ l[k + 1]? = some 10
  | c :: r, k, h => by
    rw [crAt] at h
    split at h
    · rename_i hc
      cases h
      match r, hc with
      | d :: r, hc => simp at hc ⊢; exact hc
    · rcases hr : crAt r with _ | j
      · rw [hr] at h; cases h
      · rw [hr] at h
        have := crAt_some hr
        cases h; simpa using this
theorem crAt_first : ∀ {l : List UInt8} {k : Nat}, crAt l = some k → ∀ i : Nat, i < k → ¬ (l[i]? = some 13 ∧ l[i + 1]? = some 10)
  | c :: r, k, h, i, hi => by
    rw [crAt] at h
    split at h
    · cases h; omega
    · rename_i hc
      rcases hr : crAt r with _ | j
      · rw [hr] at h; cases h
      · rw [hr] at h
        obtain rfl : j + 1 = k := by simpa using h
        match i with
        | 0 =>
          intro hh; apply hc
          simp at hh
          exact ⟨hh.1, by rw [List.head?_eq_getElem?]; exact hh.2⟩
        | i + 1 => simpa using crAt_first hr i (by omega)
theorem crAt_none : ∀ {l : List UInt8}, crAt l = none → ∀ i : Nat, ¬ (l[i]? = some 13 ∧ l[i + 1]? = some 10)
  | [], _, i => by simp
  | c :: r, h, i => by
    rw [crAt] at h
    split at h
    · cases h
    · rename_i hc
      have hr : crAt r = none := by simpa using h
      match i with
      | 0 =>
        intro hh; apply hc
        simp at hh
        exact ⟨hh.1, by rw [List.head?_eq_getElem?]; exact hh.2⟩
      | i + 1 => simpa using crAt_none hr i
theorem crAt_of {l : List UInt8} {k : Nat} (h : l[k]? = some 13 ∧ l[k + 1]? = some 10) (hf : ∀ i : Nat, i < k → ¬ (l[i]? = some 13 ∧ l[i + 1]? = some 10)) : crAt l = some k := by
  rcases hc : crAt l with _ | j
  · exact absurd h (crAt_none hc k)
  · have h1 := crAt_some hc
    have h2 := crAt_first hc
    congr 1
    rcases Nat.lt_trichotomy j k with hlt | rfl | hlt
    · exact absurd h1 (hf j hlt)
    · rfl
    · exact absurd h (h2 k hlt)
theorem crAt_no {l : List UInt8} (h : ∀ i : Nat, ¬ (l[i]? = some 13 ∧ l[i + 1]? = some 10)) : crAt l = none := by
  rcases hc : crAt l with _ | j
  · rfl
  · exact absurd (crAt_some hc) (h j)
/-- The library's place of a line's end is ours. -/
theorem index_crlf : ∀ l : List UInt8, Go.Lib.index l [13, 10] = match crAt l with | some k => (k : Int) | none => -1
  | [] => rfl
  | c :: r => by
    rw [Go.Lib.index, index_crlf r, crAt]
    have hp : List.isPrefixOf [13, 10] (c :: r) = decide (c = 13 ∧ r.head? = some 10) := by
      match r with
      | [] => simp [List.isPrefixOf]
      | d :: r => rw [Bool.eq_iff_iff]; simp [List.isPrefixOf]; constructor <;> (rintro ⟨rfl, rfl⟩; exact ⟨rfl, rfl⟩)
    rw [hp]
    by_cases h : c = 13 ∧ r.head? = some 10
    · simp [h]
    · rw [if_neg (by simpa using h), if_neg h]
      rcases crAt r with _ | j
      · simp
      · simp
theorem cut_crlf (l : List UInt8) : Go.Lib.cut l [13, 10] = match crAt l with | some k => (l.take k, l.drop (k + 2), true) | none => (l, [], false) := by
  unfold Go.Lib.cut
  rw [index_crlf]
  rcases h : crAt l with _ | k
  · simp
  · simp
/-- The place of the first of a byte. -/
def byteAt (b : UInt8) : List UInt8 → Option Nat
  | [] => none
  | c :: r => if c = b then some 0 else (byteAt b r).map (· + 1)
theorem byteAt_lt {b : UInt8} : ∀ {l : List UInt8} {k : Nat}, byteAt b l = some k → k < l.length
  | c :: r, k, h => by
    rw [byteAt] at h
    split at h
    · cases h; simp
    · rcases hr : byteAt b r with _ | j
      · rw [hr] at h; cases h
      · rw [hr] at h
        have := byteAt_lt hr
        cases h; simp; omega
theorem byteAt_some {b : UInt8} : ∀ {l : List UInt8} {k : Nat}, byteAt b l = some k → l[k]? = some b
  | c :: r, k, h => by
    rw [byteAt] at h
    split at h
    · rename_i hc; cases h; simp [hc]
    · rcases hr : byteAt b r with _ | j
      · rw [hr] at h; cases h
      · rw [hr] at h
        have := byteAt_some hr
        cases h; simpa using this
theorem byteAt_first {b : UInt8} : ∀ {l : List UInt8} {k : Nat}, byteAt b l = some k → ∀ i : Nat, i < k → l[i]? ≠ some b
  | c :: r, k, h, i, hi => by
    rw [byteAt] at h
    split at h
    · cases h; omega
    · rename_i hc
      rcases hr : byteAt b r with _ | j
      · rw [hr] at h; cases h
      · rw [hr] at h
        obtain rfl : j + 1 = k := by simpa using h
        match i with
        | 0 => simpa using hc
        | i + 1 => simpa using byteAt_first hr i (by omega)
theorem byteAt_none {b : UInt8} : ∀ {l : List UInt8}, byteAt b l = none → ∀ i : Nat, l[i]? ≠ some b
  | [], _, i => by simp
  | c :: r, h, i => by
    rw [byteAt] at h
    split at h
    · cases h
    · rename_i hc
      have hr : byteAt b r = none := by simpa using h
      match i with
      | 0 => simpa using hc
      | i + 1 => simpa using byteAt_none hr i
theorem byteAt_of {b : UInt8} {l : List UInt8} {k : Nat} (h : l[k]? = some b) (hf : ∀ i : Nat, i < k → l[i]? ≠ some b) : byteAt b l = some k := by
  rcases hc : byteAt b l with _ | j
  · exact absurd h (byteAt_none hc k)
  · have h1 := byteAt_some hc
    have h2 := byteAt_first hc
    congr 1
    rcases Nat.lt_trichotomy j k with hlt | rfl | hlt
    · exact absurd h1 (hf j hlt)
    · rfl
    · exact absurd h (h2 k hlt)
theorem byteAt_no {b : UInt8} {l : List UInt8} (h : ∀ i : Nat, l[i]? ≠ some b) : byteAt b l = none := by
  rcases hc : byteAt b l with _ | j
  · rfl
  · exact absurd (byteAt_some hc) (h j)
theorem index_byte (b : UInt8) : ∀ l : List UInt8, Go.Lib.index l [b] = match byteAt b l with | some k => (k : Int) | none => -1
  | [] => rfl
  | c :: r => by
    rw [Go.Lib.index, index_byte b r, byteAt]
    have hp : List.isPrefixOf [b] (c :: r) = decide (c = b) := by
      rw [Bool.eq_iff_iff]; simp [List.isPrefixOf]; exact ⟨fun h => h.symm, fun h => h.symm⟩
    rw [hp]
    by_cases h : c = b
    · simp [h]
    · rw [if_neg (by simpa using h), if_neg h]
      rcases byteAt b r with _ | j
      · simp
      · simp
theorem cut_byte (b : UInt8) (l : List UInt8) : Go.Lib.cut l [b] = match byteAt b l with | some k => (l.take k, l.drop (k + 1), true) | none => (l, [], false) := by
  unfold Go.Lib.cut
  rw [index_byte]
  rcases h : byteAt b l with _ | k
  · simp
  · simp
abbrev Fld := List UInt8 × List UInt8
/-- One more line of a head: the fields so far, and whether a line was long. -/
def lineStep (st : List Fld × Bool) (l : List UInt8) : Option (List Fld × Bool) :=
  if l.all shownC = false then none
  else if (l.head?.map blankC).getD false then
    (match st.1.getLast? with
     | none => none
     | some p => some (st.1.dropLast ++ [(p.1, p.2 ++ l)], st.2 || decide (998 < l.length)))
  else match byteAt 58 l with
    | none => none
    | some k => if nameL (l.take k) then some (st.1 ++ [(l.take k, l.drop (k + 1))], st.2 || decide (998 < l.length)) else none
/-- A head's lines with the place behind each; the empty one is the last one. -/
def itL (l : List UInt8) (at_ : Nat) : List (List UInt8 × Nat) :=
  match h : crAt l with
  | none => []
  | some k => (l.take k, at_ + k + 2) :: if k = 0 then [] else itL (l.drop (k + 2)) (at_ + k + 2)
termination_by l.length
decreasing_by have := crAt_lt h; simp; omega
theorem itL_none {l : List UInt8} {a : Nat} (h : crAt l = none) : itL l a = [] := by
  rw [itL]; split
  · rfl
  · rename_i h'; rw [h] at h'; cases h'
theorem itL_some {l : List UInt8} {a k : Nat} (h : crAt l = some k) : itL l a = (l.take k, a + k + 2) :: if k = 0 then [] else itL (l.drop (k + 2)) (a + k + 2) := by
  rw [itL]; split
  · rename_i h'; rw [h] at h'; cases h'
  · rename_i h'; rw [h] at h'; cases h'; rfl
theorem itL_two (n : Nat) : ∀ (l : List UInt8) (a : Nat), l.length ≤ n → ∀ x ∈ itL l a, 2 ≤ x.2 := by
  induction n with
  | zero =>
    intro l a h x hx
    rw [List.eq_nil_of_length_eq_zero (l := l) (by omega), itL_none rfl] at hx; cases hx
  | succ n ih =>
    intro l a h x hx
    rcases hc : crAt l with _ | k
    · rw [itL_none hc] at hx; cases hx
    · have := crAt_lt hc
      rw [itL_some hc] at hx
      rcases List.mem_cons.1 hx with rfl | hx
      · show 2 ≤ a + k + 2; omega
      · by_cases hk : k = 0
        · rw [if_pos hk] at hx; cases hx
        · rw [if_neg hk] at hx; exact ih _ _ (by rw [List.length_drop]; omega) x hx
theorem itL_count (n : Nat) : ∀ (l : List UInt8) (a : Nat), l.length ≤ n → (itL l a).length ≤ l.length := by
  induction n with
  | zero =>
    intro l a h
    rw [List.eq_nil_of_length_eq_zero (l := l) (by omega), itL_none rfl]; simp
  | succ n ih =>
    intro l a h
    rcases hc : crAt l with _ | k
    · rw [itL_none hc]; simp
    · have := crAt_lt hc
      rw [itL_some hc, List.length_cons]
      by_cases hk : k = 0
      · rw [if_pos hk]; simp; omega
      · rw [if_neg hk]
        have h2 := ih (l.drop (k + 2)) (a + k + 2) (by rw [List.length_drop]; omega)
        rw [List.length_drop] at h2; omega
theorem itL_short (n : Nat) : ∀ (l : List UInt8) (a : Nat), l.length ≤ n → ∀ x ∈ itL l a, x.1.length ≤ l.length := by
  induction n with
  | zero =>
    intro l a h x hx
    rw [List.eq_nil_of_length_eq_zero (l := l) (by omega), itL_none rfl] at hx; cases hx
  | succ n ih =>
    intro l a h x hx
    rcases hc : crAt l with _ | k
    · rw [itL_none hc] at hx; cases hx
    · have := crAt_lt hc
      rw [itL_some hc] at hx
      rcases List.mem_cons.1 hx with rfl | hx
      · show (l.take k).length ≤ l.length; rw [List.length_take]; omega
      · by_cases hk : k = 0
        · rw [if_pos hk] at hx; cases hx
        · rw [if_neg hk] at hx
          have h2 := ih _ _ (by rw [List.length_drop]; omega) x hx
          rw [List.length_drop] at h2; omega
/-- The fields of a head's lines, whether one was long, and the place behind the head; none: it is no head. -/
def runHead : List (List UInt8 × Nat) → List Fld × Bool → Option (List Fld × Bool × Nat)
  | [], _ => none
  | (ln, a) :: r, st => if ln = [] then some (st.1, st.2, a) else match lineStep st ln with | none => none | some st' => runHead r st'
def linesL (ls : List (List UInt8)) (st : List Fld × Bool) : Option (List Fld × Bool) := ls.foldlM lineStep st
theorem linesL_snoc (ls : List (List UInt8)) (l : List UInt8) (st : List Fld × Bool) : linesL (ls ++ [l]) st = (linesL ls st).bind fun s => lineStep s l := by
  unfold linesL; rw [List.foldlM_append]; simp [List.foldlM_cons, List.foldlM_nil]
theorem runHead_app : ∀ (xs r : List (List UInt8 × Nat)) (st st' : List Fld × Bool), (∀ x ∈ xs, x.1 ≠ []) → linesL (xs.map (·.1)) st = some st' → runHead (xs ++ r) st = runHead r st'
  | [], r, st, st', _, h => by simp [linesL] at h; rw [h]; rfl
  | (ln, a) :: xs, r, st, st', hne, h => by
    have hn : ln ≠ [] := hne (ln, a) (by simp)
    rw [List.map_cons, linesL, List.foldlM_cons] at h
    obtain ⟨s1, h1, h2⟩ := Option.bind_eq_some_iff.1 h
    rw [List.cons_append, runHead, if_neg hn, h1]
    exact runHead_app xs r s1 st' (fun x hx => hne x (by simp [hx])) h2
inductive Split where
  | form
  | long
  | ok (l : List Fld) (body : Nat)
def splitL (l : List UInt8) : Split := match runHead (itL l 0) ([], false) with
  | none => .form
  | some (_, true, _) => .long
  | some (f, false, b) => .ok (f.map fun p => (p.1, trimB p.2)) b
end Nun
