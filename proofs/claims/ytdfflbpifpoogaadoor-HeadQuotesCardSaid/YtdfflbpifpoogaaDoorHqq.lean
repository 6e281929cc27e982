/- nuncioref13.Quote. -/
import Derived.Test.YtdfflbpifpoogaaDoorHql
import Derived.Test.YtdfflbpifpoogaaDoorOcg
set_option linter.unusedVariables false
namespace Nun
open Go Go.RowKit
theorem esc_yes (c : UInt8) (h : c = 34 ∨ c = 92) : escC c = [92, c] := by unfold escC; rw [if_pos h]
theorem esc_no (c : UInt8) (h : ¬ (c = 34 ∨ c = 92)) : escC c = [c] := by unfold escC; rw [if_neg h]
theorem q34 : ∀ c : UInt8, ((c.toNat : Int) == 34) = decide (c = 34) := by decide +kernel
theorem q92 : ∀ c : UInt8, ((c.toNat : Int) == 92) = decide (c = 92) := by decide +kernel
end Nun
namespace Go.Proofs.YtdfflbpifpoogaaDoor
open Go Go.RowKit Nun
set_option maxHeartbeats 1000000 in
theorem quote_ref (s : ByteArray) (w : World) (hs : s.size ≤ 1000000) : Calls Tryd.prog 17 #[.string s] w (Same (.string ⟨(quoteR s.data.toList).toArray⟩) w) := by
  go_enter Tryd.func17, Tryd.ntmps17
  go_wp2
  go_loop [3, 4] (fun v i => ∃ (k : Nat) (S : ByteArray), k ≤ s.size ∧ i = .int .i64 k ∧ v = .string S ∧ Hid (S.data.toList = 34 :: escL (s.data.toList.take k)) ∧ S.size ≤ 1 + 2 * k) (fun _ i => s.size - (intOf i).toNat)
  case atStart => exact ⟨0, ⟨#[34]⟩, Nat.zero_le _, rfl, rfl, Lib.hid rfl, by decide⟩
  case round =>
    obtain ⟨k, S, hk, rfl, rfl, hS, hz⟩ := hrel
    by_cases hlt : k < s.size
    · have hst : s.data.toList.take (k + 1) = s.data.toList.take k ++ [s[k]] := by
        rw [List.take_succ_eq_append_getElem (by simpa using hlt)]; rfl
      have HST := Lib.hid hst; clear hst
      have hx1 := ext1 s k hlt
      have hxs : (s.extract k (k + 1)).size = 1 := by rw [ByteArray.size_extract]; omega
      obtain ⟨E, hE⟩ : ∃ E, s.extract k (k + 1) = E := ⟨_, rfl⟩
      rw [hE] at hx1 hxs
      generalize hc : s[k] = c at *
      have HX := Lib.hid hx1; clear hx1
      by_cases hq : c = 34 ∨ c = 92
      · have HQ := Lib.hid (esc_yes c hq)
        have h34 : ((c.toNat : Int) == 34) = decide (c = 34) := q34 c
        have h92 : ((c.toNat : Int) == 92) = decide (c = 92) := q92 c
        rcases hq with rfl | rfl
        all_goals
          clear h34 h92
          go_wp2
          go_round
          case rel => exact ⟨k + 1, _, by omega, by go_num, rfl, Lib.hid (by rw [HST.out, escL_snoc, HQ.out]; simp [hS.out, HX.out]), by have h1 : (⟨#[92]⟩ : ByteArray).size = 1 := rfl; simp only [ByteArray.size_append, hxs, h1]; omega⟩
          case measure => simp [intOf]; omega
      · have HQ := Lib.hid (esc_no c hq)
        have h34 : ((c.toNat : Int) == 34) = false := by rw [q34]; simpa using fun h => hq (.inl h)
        have h92 : ((c.toNat : Int) == 92) = false := by rw [q92]; simpa using fun h => hq (.inr h)
        clear hq
        go_wp2
        go_round
        case rel => exact ⟨k + 1, _, by omega, by go_num, rfl, Lib.hid (by rw [HST.out, escL_snoc, HQ.out]; simp [hS.out, HX.out]), by simp only [ByteArray.size_append, hxs]; omega⟩
        case measure => simp [intOf]; omega
    · obtain rfl : k = s.size := by omega
      have hend : s.data.toList.take s.size = s.data.toList := List.take_of_length_le (Nat.le_refl _)
      have HE := Lib.hid hend; clear hend
      go_wp2
      go_ret
      exact ⟨r1 (vS (by simp [hS.out, HE.out, quoteR])), rfl⟩
end Go.Proofs.YtdfflbpifpoogaaDoor
