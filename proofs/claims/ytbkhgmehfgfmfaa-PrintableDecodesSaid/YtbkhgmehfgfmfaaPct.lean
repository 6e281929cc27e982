/- Contracts of the packages pct and nuncioref08: texts as one component of an address. -/
import Derived.Test.YtbkhgmehfgfmfaaOct
--B
set_option linter.unusedVariables false
set_option synthInstance.maxSize 4000
namespace Nun
def one (s : List UInt8) (n : Int) : Option (UInt8 × Nat) :=
  if n < 0 then none else match s[n.toNat]? with
  | none => none
  | some c => if free c then some (c, 1) else if c = 37 then (hexAt s (n + 1)).map fun x => (x, 3) else none
def oneV : Option (UInt8 × Nat) → Go.Value
  | none => .tuple #[.int .u8 0, .int .i64 0, .bool false]
  | some (c, k) => .tuple #[.int .u8 c.toNat, .int .i64 k, .bool true]
attribute [simp] oneV
theorem one_out (s : ByteArray) (n : Int) (h : n < 0 ∨ (s.size : Int) ≤ n) : one s.data.toList n = none := by
  unfold one
  split
  · rfl
  · rw [List.getElem?_eq_none]; simp; show s.size ≤ _; omega
theorem one_in (s : ByteArray) (n : Int) (h0 : 0 ≤ n) (h : n < s.size) : one s.data.toList n =
    if free (s[n.toNat]'(by omega)) then some (s[n.toNat]'(by omega), 1) else if s[n.toNat]'(by omega) = 37 then (hexAt s.data.toList (n + 1)).map fun x => (x, 3) else none := by
  unfold one
  rw [if_neg (by omega), List.getElem?_eq_getElem (by simp; show _ < s.size; omega)]; rfl
theorem one_size {s : List UInt8} {n : Int} {c : UInt8} {k : Nat} (h : one s n = some (c, k)) : 0 < k ∧ n + k ≤ s.length := by
  unfold one at h
  split at h
  · cases h
  · split at h
    · cases h
    · rename_i c' hc
      have hlt := (List.getElem?_eq_some_iff.1 hc).1
      split at h
      · cases h; omega
      · split at h
        · unfold hexAt at h
          rw [if_neg (by omega)] at h
          split at h
          · rename_i a b ha hb
            have := (List.getElem?_eq_some_iff.1 hb).1
            simp at h; obtain ⟨x, _, _, rfl⟩ := h
            omega
          · cases h
        · cases h
/-- What is read from a place on. -/
def readFrom (s : List UInt8) : Nat → Nat → Option (List UInt8)
  | 0, _ => some []
  | f + 1, at_ => if at_ < s.length then match one s at_ with | none => none | some (c, k) => (readFrom s f (at_ + k)).map (c :: ·) else some []
end Nun
namespace Go.Proofs.Ytbkhgmehfgfmfaa
open Go.RowKit Nun
theorem free_of (c : UInt8) (b : Bool) (h : free c = b) (w : World) : Calls Try.prog 13 #[.int .u8 c.toNat] w (Same (.bool b) w) := h ▸ free_pct c w
theorem freeR_of (c : UInt8) (b : Bool) (h : free c = b) (w : World) : Calls Try.prog 14 #[.int .u8 c.toNat] w (Same (.bool b) w) := h ▸ free_ref c w
theorem byte_of (s : ByteArray) (n : Int) (o : Option UInt8) (h : hexAt s.data.toList n = o) (w : World) (hs : s.size ≤ 1000000000) :
    Calls Try.prog 29 #[.string s, .int .i64 n] w (Same (.tuple #[.int .u8 (o.getD 0).toNat, .bool o.isSome]) w) := h ▸ byte_any s n w hs
theorem byteR_of (s : ByteArray) (n : Int) (o : Option UInt8) (h : hexAt s.data.toList n = o) (w : World) (hs : s.size ≤ 1000000000) :
    Calls Try.prog 30 #[.string s, .int .i64 n] w (Ret (.tuple #[.int .u8 (o.getD 0).toNat, .bool o.isSome]) w) := h ▸ byte_ref s n w hs

set_option maxHeartbeats 400000 in
theorem one_pct (s : ByteArray) (n : Int) (w : World) (hs : s.size ≤ 1000000000) : Calls Try.prog 17 #[.string s, .int .i64 n] w (Same (oneV (one s.data.toList n)) w) := by
  by_cases hn : 0 ≤ n ∧ n < s.size
  · obtain ⟨h1, h2⟩ := hn
    rw [one_in s n h1 h2]
    generalize hb : free s[n.toNat] = b
    have HB := Lib.hid hb; clear hb
    cases b
    · by_cases h37 : s[n.toNat] = 37
      · have q1 : ((s[n.toNat].toNat : Int) == 37) = true := by simp [h37]
        have q2 : ((s[n.toNat].toNat : Int) != 37) = false := by simp [h37]
        rw [if_neg (by simp), if_pos h37]; clear h37
        generalize ho : hexAt s.data.toList (n + 1) = o
        have HO := Lib.hid ho; clear ho
        cases o
        all_goals
          go_enter Try.func17, Try.ntmps17
          go_wp2_with (first | (go_at_call 13; refine (free_of _ _ HB.out _).mono ?_; rintro e w' ⟨rfl, rfl⟩) | (go_at_call 29; refine (byte_of _ _ _ HO.out _ hs).mono ?_; rintro e w' ⟨rfl, rfl⟩))
          go_ret3
          exact ⟨rfl, rfl⟩
      · have q1 : ((s[n.toNat].toNat : Int) == 37) = false := by simp [← UInt8.toNat_inj] at h37 ⊢; omega
        have q2 : ((s[n.toNat].toNat : Int) != 37) = true := by simp [← UInt8.toNat_inj] at h37 ⊢; omega
        rw [if_neg (by simp), if_neg h37]; clear h37
        go_enter Try.func17, Try.ntmps17
        go_wp2_with (first | (go_at_call 13; refine (free_of _ _ HB.out _).mono ?_; rintro e w' ⟨rfl, rfl⟩))
        go_ret3
        exact ⟨rfl, rfl⟩
    · go_enter Try.func17, Try.ntmps17
      go_wp2_with (first | (go_at_call 13; refine (free_of _ _ HB.out _).mono ?_; rintro e w' ⟨rfl, rfl⟩))
      go_ret3
      exact ⟨rfl, rfl⟩
  · rw [one_out s n (by omega)]
    go_enter Try.func17, Try.ntmps17
    go_wp2
    all_goals (go_ret3; exact ⟨rfl, rfl⟩)

set_option maxHeartbeats 400000 in
theorem one_ref (s : ByteArray) (n : Int) (w : World) (hs : s.size ≤ 1000000000) : Calls Try.prog 18 #[.string s, .int .i64 n] w (Ret (oneV (one s.data.toList n)) w) := by
  by_cases hn : 0 ≤ n ∧ n < s.size
  · obtain ⟨h1, h2⟩ := hn
    rw [one_in s n h1 h2]
    generalize hb : free s[n.toNat] = b
    have HB := Lib.hid hb; clear hb
    cases b
    · by_cases h37 : s[n.toNat] = 37
      · have q1 : ((s[n.toNat].toNat : Int) == 37) = true := by simp [h37]
        have q2 : ((s[n.toNat].toNat : Int) != 37) = false := by simp [h37]
        rw [if_neg (by simp), if_pos h37]; clear h37
        generalize ho : hexAt s.data.toList (n + 1) = o
        have HO := Lib.hid ho; clear ho
        cases o
        all_goals
          go_enter Try.func18, Try.ntmps18
          go_wp2_with (first | (go_at_call 14; refine (freeR_of _ _ HB.out _).mono ?_; rintro e w' ⟨rfl, rfl⟩) | (go_at_call 30; refine (byteR_of _ _ _ HO.out _ hs).mono ?_; rintro e w' ⟨rfl, hb1⟩))
          go_ret3
          exact ⟨rfl, hb1⟩
      · have q1 : ((s[n.toNat].toNat : Int) == 37) = false := by simp [← UInt8.toNat_inj] at h37 ⊢; omega
        have q2 : ((s[n.toNat].toNat : Int) != 37) = true := by simp [← UInt8.toNat_inj] at h37 ⊢; omega
        rw [if_neg (by simp), if_neg h37]; clear h37
        go_enter Try.func18, Try.ntmps18
        go_wp2_with (first | (go_at_call 14; refine (freeR_of _ _ HB.out _).mono ?_; rintro e w' ⟨rfl, rfl⟩))
        go_ret3
        exact ⟨rfl, Below.refl _ _⟩
    · go_enter Try.func18, Try.ntmps18
      go_wp2_with (first | (go_at_call 14; refine (freeR_of _ _ HB.out _).mono ?_; rintro e w' ⟨rfl, rfl⟩))
      go_ret3
      exact ⟨rfl, Below.refl _ _⟩
  · rw [one_out s n (by omega)]
    go_enter Try.func18, Try.ntmps18
    go_wp2
    all_goals (go_ret3; exact ⟨rfl, Below.refl _ _⟩)
end Go.Proofs.Ytbkhgmehfgfmfaa
