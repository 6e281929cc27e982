/- The pieces of quoted-printable: plain lists; nuncioref05.piece. -/
import Derived.Test.YtbkhgmehfgfmfaaQpd
set_option linter.unusedVariables false
namespace Nun
/-- May a blank stand before what follows? -/
def nextOk : List UInt8 → Bool | [] => false | d :: _ => d != 10
/-- What is written of a byte that is no line's end. -/
def piece (c : UInt8) (t : List UInt8) : List UInt8 := if plainB c || ((c == 32 || c == 9) && nextOk t) then [c] else 61 :: pair c
theorem piece_len (c : UInt8) (t : List UInt8) : 0 < (piece c t).length ∧ (piece c t).length ≤ 3 := by unfold piece; split <;> simp [pair]
def encL : Nat → List UInt8 → List UInt8
  | _, [] => []
  | line, c :: t => if c = 10 then 13 :: 10 :: encL 0 t
    else if line + (piece c t).length > 75 then [61, 13, 10] ++ (piece c t ++ encL (piece c t).length t) else piece c t ++ encL (line + (piece c t).length) t
/-- The tests of a piece, as a program makes them: one way to a single byte, one to the three signs. -/
theorem piece_one {s : List UInt8} {k : Nat} (hk : k < s.length) (h : plainB s[k] = true ∨ ((s[k] = 32 ∨ s[k] = 9) ∧ ∃ h : k + 1 < s.length, s[k + 1] ≠ 10)) : piece s[k] (s.drop (k + 1)) = [s[k]] := by
  unfold piece
  rcases h with h | ⟨h, h2, h3⟩
  · rw [if_pos (by simp [h])]
  · rw [List.drop_eq_getElem_cons h2, if_pos]
    rcases h with h | h <;> simp [h, nextOk, h3]
theorem piece_three {s : List UInt8} {k : Nat} (hk : k < s.length) (hp : plainB s[k] = false) (h : (s[k] ≠ 32 ∧ s[k] ≠ 9) ∨ s.length ≤ k + 1 ∨ ∃ h : k + 1 < s.length, s[k + 1] = 10) : piece s[k] (s.drop (k + 1)) = 61 :: pair s[k] := by
  unfold piece
  rw [if_neg]
  rcases h with ⟨h, h'⟩ | h | ⟨h, h'⟩
  · simp [hp, h, h']
  · rw [List.drop_of_length_le h]; simp [hp, nextOk]
  · rw [List.drop_eq_getElem_cons h]; simp [hp, nextOk, h']
end Nun
namespace Go.Proofs.Ytbkhgmehfgfmfaa
open Go.RowKit Nun
set_option maxHeartbeats 2000000 in
set_option maxRecDepth 100000 in
theorem piece_ref (s : ByteArray) (k : Nat) (w : World) (hs : s.size ≤ 1000000000) (hk : k < s.size) : Calls Try.prog 36 #[.string s, .int .i64 k] w (Ret (.string ⟨(piece s[k] (s.data.toList.drop (k + 1))).toArray⟩) w) := by
  have kc := fun (w : World) (x : UInt8) => conv_one (P := Try.prog) Try.underlying34 Try.underlying5 Try.underlying9 w x
  have hpl : (pair s[k]).length ≤ 2 := by simp [pair]
  generalize hp : plainB s[k] = bp
  have HP := Lib.hid hp; clear hp
  cases bp
  · by_cases hbl : s[k] = 32 ∨ s[k] = 9
    · have q : ∃ b, ((s[k].toNat : Int) == 32) = b ∧ (b = false → ((s[k].toNat : Int) == 9) = true) := by
        refine ⟨_, rfl, fun h => ?_⟩
        rcases hbl with h' | h'
        · rw [h'] at h; cases h
        · rw [h']; rfl
      obtain ⟨b, q1, q2⟩ := q
      by_cases hn : k + 1 < s.size
      · have i1 : (k : Int) < (s.size : Int) - 1 := by omega
        have i2 : (k : Int) + 1 < (s.size : Int) := by omega
        by_cases h10 : s[k + 1] = 10
        · have HE := Lib.hid (show piece s[k] (s.data.toList.drop (k + 1)) = _ from piece_three (s := s.data.toList) hk HP.out (.inr (.inr ⟨hn, h10⟩)))
          have q3 : ((s[k + 1].toNat : Int) == 10) = true := by rw [h10]; rfl
          have q4 : ((s[k + 1].toNat : Int) != 10) = false := by rw [h10]; rfl
          clear h10 hbl
          cases b
          all_goals (try replace q2 := q2 rfl)
          all_goals
            go_enter Try.func36, Try.ntmps36
            go_wp2_with (first | (go_at_call 38; refine (plain_of_ref _ _ HP.out _).mono ?_; rintro e w1 ⟨rfl, rfl⟩) | (go_at_call 27; refine (pair_ref _ _).mono ?_; rintro e w1 ⟨rfl, hb1⟩))
            go_ret
            exact ⟨by rw [HE.out]; exact r1 (vS (by simp [ByteArray.toList_data_append]; rfl)), (by repeat (first | assumption | exact Below.refl _ _ | refine below_of ?_ (by assumption)))⟩
        · have HE := Lib.hid (show piece s[k] (s.data.toList.drop (k + 1)) = _ from piece_one (s := s.data.toList) hk (.inr ⟨hbl, hn, h10⟩))
          have q3 : ((s[k + 1].toNat : Int) == 10) = false := by simp [← UInt8.toNat_inj] at h10 ⊢; omega
          have q4 : ((s[k + 1].toNat : Int) != 10) = true := by simp [← UInt8.toNat_inj] at h10 ⊢; omega
          clear h10 hbl
          cases b
          all_goals (try replace q2 := q2 rfl)
          all_goals
            go_enter Try.func36, Try.ntmps36
            go_wp2_with (first | (go_at_call 38; refine (plain_of_ref _ _ HP.out _).mono ?_; rintro e w1 ⟨rfl, rfl⟩) | (go_at_call 27; refine (pair_ref _ _).mono ?_; rintro e w1 ⟨rfl, hb1⟩))
            go_ret
            exact ⟨by rw [HE.out]; rfl, (Below.refl _ _).alloc (Nat.le_refl _) _⟩
      · have HE := Lib.hid (show piece s[k] (s.data.toList.drop (k + 1)) = _ from piece_three (s := s.data.toList) hk HP.out (.inr (.inl (by show s.size ≤ _; omega))))
        have i1 : ¬ (k : Int) < (s.size : Int) - 1 := by omega
        clear hbl
        cases b
        all_goals (try replace q2 := q2 rfl)
        all_goals
          go_enter Try.func36, Try.ntmps36
          go_wp2_with (first | (go_at_call 38; refine (plain_of_ref _ _ HP.out _).mono ?_; rintro e w1 ⟨rfl, rfl⟩) | (go_at_call 27; refine (pair_ref _ _).mono ?_; rintro e w1 ⟨rfl, hb1⟩))
          go_ret
          exact ⟨by rw [HE.out]; exact r1 (vS (by simp [ByteArray.toList_data_append]; rfl)), (by repeat (first | assumption | exact Below.refl _ _ | refine below_of ?_ (by assumption)))⟩
    · have h32 : ¬ s[k] = 32 := fun h => hbl (.inl h)
      have h9 : ¬ s[k] = 9 := fun h => hbl (.inr h)
      have HE := Lib.hid (show piece s[k] (s.data.toList.drop (k + 1)) = _ from piece_three (s := s.data.toList) hk HP.out (.inl ⟨h32, h9⟩))
      have q1 : ((s[k].toNat : Int) == 32) = false := by simp [← UInt8.toNat_inj] at h32 ⊢; omega
      have q2 : ((s[k].toNat : Int) == 9) = false := by simp [← UInt8.toNat_inj] at h9 ⊢; omega
      clear hbl h32 h9
      go_enter Try.func36, Try.ntmps36
      go_wp2_with (first | (go_at_call 38; refine (plain_of_ref _ _ HP.out _).mono ?_; rintro e w1 ⟨rfl, rfl⟩) | (go_at_call 27; refine (pair_ref _ _).mono ?_; rintro e w1 ⟨rfl, hb1⟩))
      go_ret
      exact ⟨by rw [HE.out]; exact r1 (vS (by simp [ByteArray.toList_data_append]; rfl)), (by repeat (first | assumption | exact Below.refl _ _ | refine below_of ?_ (by assumption)))⟩
  · have HE := Lib.hid (show piece s[k] (s.data.toList.drop (k + 1)) = _ from piece_one (s := s.data.toList) hk (.inl HP.out))
    by_cases h32 : s[k] = 32
    · have := HP.out; rw [h32] at this; cases this
    · by_cases h9 : s[k] = 9
      · have := HP.out; rw [h9] at this; cases this
      · have q1 : ((s[k].toNat : Int) == 32) = false := by simp [← UInt8.toNat_inj] at h32 ⊢; omega
        have q2 : ((s[k].toNat : Int) == 9) = false := by simp [← UInt8.toNat_inj] at h9 ⊢; omega
        clear h32 h9
        go_enter Try.func36, Try.ntmps36
        go_wp2_with (first | (go_at_call 38; refine (plain_of_ref _ _ HP.out _).mono ?_; rintro e w1 ⟨rfl, rfl⟩) | (go_at_call 27; refine (pair_ref _ _).mono ?_; rintro e w1 ⟨rfl, hb1⟩))
        go_ret
        exact ⟨by rw [HE.out]; rfl, (Below.refl _ _).alloc (Nat.le_refl _) _⟩
end Go.Proofs.Ytbkhgmehfgfmfaa
