/- nuncioref05.Encode. -/
import Derived.Test.YtbkhgmehfgfmfaaQpe
import Derived.Test.YtbkhgmehfgfmfaaPcw
set_option linter.unusedVariables false
namespace Nun
theorem encL_nl {s : List UInt8} {k line : Nat} (hk : k < s.length) (h : s[k] = 10) : encL line (s.drop k) = [13, 10] ++ encL 0 (s.drop (k + 1)) := by
  rw [List.drop_eq_getElem_cons hk, encL, if_pos h]; rfl
theorem encL_wrap {s : List UInt8} {k line : Nat} (hk : k < s.length) (h : s[k] ≠ 10) {p : List UInt8} (hp : piece s[k] (s.drop (k + 1)) = p) (hl : line + p.length > 75) : encL line (s.drop k) = [61, 13, 10] ++ p ++ encL p.length (s.drop (k + 1)) := by
  rw [List.drop_eq_getElem_cons hk, encL, if_neg h, hp, if_pos hl]; simp
theorem encL_on {s : List UInt8} {k line : Nat} (hk : k < s.length) (h : s[k] ≠ 10) {p : List UInt8} (hp : piece s[k] (s.drop (k + 1)) = p) (hl : ¬ line + p.length > 75) : encL line (s.drop k) = p ++ encL (line + p.length) (s.drop (k + 1)) := by
  rw [List.drop_eq_getElem_cons hk, encL, if_neg h, hp, if_neg hl]
end Nun
namespace Go.Proofs.Ytbkhgmehfgfmfaa
open Go.RowKit Nun
theorem piece_of (s : ByteArray) (k : Nat) (p : List UInt8) (w : World) (hs : s.size ≤ 1000000000) (hk : k < s.size) (h : piece s[k] (s.data.toList.drop (k + 1)) = p) : Calls Try.prog 36 #[.string s, .int .i64 k] w (Ret (.string ⟨p.toArray⟩) w) := h ▸ piece_ref s k w hs hk
set_option maxHeartbeats 2000000 in
set_option maxRecDepth 100000 in
theorem enc_ref (s : ByteArray) (w : World) (hs : s.size ≤ 1000000) : Calls Try.prog 22 #[.string s] w (Ret (.string ⟨(encL 0 s.data.toList).toArray⟩) w) := by
  go_enter Try.func22, Try.ntmps22
  go_wp2
  go_loopw [3, 4, 5, 6] (fun v l i _ wr => ∃ (k line : Nat) (acc : List UInt8), k ≤ s.size ∧ line ≤ 75 ∧ i = .int .i64 k ∧ l = .int .i64 line ∧ v = .string ⟨acc.toArray⟩ ∧ acc.length ≤ 6 * k ∧ Below w.heap.size w wr ∧ Hid (encL 0 s.data.toList = acc ++ encL line (s.data.toList.drop k)))
    (fun _ _ i _ _ => s.size - (intOf i).toNat)
  case atStart => exact ⟨0, 0, [], Nat.zero_le _, by omega, rfl, rfl, rfl, by simp, Below.refl _ _, Lib.hid (by simp)⟩
  case round =>
    obtain ⟨k, line, acc, hk, hline, rfl, rfl, rfl, hak, hbel, hacc⟩ := hrel
    by_cases hlt : k < s.size
    · by_cases h10 : s[k] = 10
      · have HN := Lib.hid (hacc.out.trans (congrArg (acc ++ ·) (encL_nl (s := s.data.toList) (line := line) hlt h10)))
        have q1 : ((s[k].toNat : Int) == 10) = true := by rw [h10]; rfl
        clear h10 hacc
        go_wp2
        go_roundw
        case rel => exact ⟨k + 1, 0, acc ++ [13, 10], by omega, by omega, by go_num, rfl, vS (by simp [ByteArray.toList_data_append]), by simp; omega, hbel, Lib.hid (by rw [HN.out]; simp)⟩
        case measure => simp [intOf]; omega
      · have q1 : ((s[k].toNat : Int) == 10) = false := by simp [← UInt8.toNat_inj] at h10 ⊢; omega
        have hp2 := piece_len s[k] (s.data.toList.drop (k + 1))
        generalize hp : piece s[k] (s.data.toList.drop (k + 1)) = p at hp2
        obtain ⟨hp0, hp3⟩ := hp2
        have HP := Lib.hid hp; clear hp
        by_cases hl : line + p.length > 75
        · have HN := Lib.hid (hacc.out.trans (congrArg (acc ++ ·) (encL_wrap (s := s.data.toList) (line := line) hlt h10 HP.out hl)))
          clear h10 hacc
          have q2 : (75 : Int) < (line : Int) + (p.length : Int) := by omega
          go_wp2_with (go_at_call 36; refine (piece_of _ _ _ _ (by omega) hlt HP.out).mono ?_; rintro e w1 ⟨rfl, hb1⟩)
          go_roundw
          case rel => exact ⟨k + 1, p.length, acc ++ ([61, 13, 10] ++ p), by omega, by omega, by go_num, by simp, vS (by simp [ByteArray.toList_data_append]), by simp; omega, hbel.trans (hb1.mono hbel.size), Lib.hid (by rw [HN.out]; simp)⟩
          case measure => simp [intOf]; omega
        · have HN := Lib.hid (hacc.out.trans (congrArg (acc ++ ·) (encL_on (s := s.data.toList) (line := line) hlt h10 HP.out hl)))
          clear h10 hacc
          have q2 : ¬ (75 : Int) < (line : Int) + (p.length : Int) := by omega
          go_wp2_with (go_at_call 36; refine (piece_of _ _ _ _ (by omega) hlt HP.out).mono ?_; rintro e w1 ⟨rfl, hb1⟩)
          go_roundw
          case rel => exact ⟨k + 1, line + p.length, acc ++ p, by omega, by omega, by go_num, by simp, vS (by simp [ByteArray.toList_data_append]), by simp; omega, hbel.trans (hb1.mono hbel.size), Lib.hid (by rw [HN.out]; simp)⟩
          case measure => simp [intOf]; omega
    · obtain rfl : k = s.size := by omega
      go_wp2
      go_ret
      exact ⟨r1 (vs (by rw [hacc.out, show s.data.toList.drop s.size = [] from List.drop_of_length_le (Nat.le_refl _)]; simp [encL])), hbel⟩
end Go.Proofs.Ytbkhgmehfgfmfaa
