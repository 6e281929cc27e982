/- Contracts of pct.Read, nuncioref08.Read, Write. -/
import Derived.Test.YtbkhgmehfgfmfaaPct
import Derived.Test.YtbkhgmehfgfmfaaBld
set_option linter.unusedVariables false
set_option synthInstance.maxSize 4000
namespace Nun
/-- The bytes of a component. -/
def readL : List UInt8 → Option (List UInt8)
  | [] => some []
  | c :: t => if free c then (readL t).map (c :: ·) else if c = 37 then
      match t with
      | a :: b :: t' => match hex2 a b with | some x => (readL t').map (x :: ·) | none => none
      | _ => none
    else none
/-- A step of reading. -/
theorem readL_none {s : List UInt8} {k : Nat} (hk : k < s.length) (h : one s k = none) : readL (s.drop k) = none := by
  rw [List.drop_eq_getElem_cons hk]
  unfold one at h
  rw [if_neg (by omega), show ((k : Int)).toNat = k from rfl, List.getElem?_eq_getElem hk] at h
  simp only at h
  unfold readL
  split at h
  · cases h
  · rename_i hf
    rw [if_neg hf]
    split at h
    · rename_i hc
      rw [if_pos hc]
      simp [hexAt] at h
      replace h := h (by omega)
      by_cases h2 : k + 1 + 1 < s.length
      · rw [List.drop_eq_getElem_cons (show k + 1 < s.length by omega), List.drop_eq_getElem_cons h2]
        rw [List.getElem?_eq_getElem (show k + 1 < s.length by omega), List.getElem?_eq_getElem h2] at h
        simp only at h
        simp only [h]
      · have : (s.drop (k + 1)).length ≤ 1 := by simp; omega
        match hd : s.drop (k + 1), this with
        | [], _ => rfl
        | [_], _ => rfl
    · rename_i hc
      rw [if_neg hc]
theorem readL_some {s : List UInt8} {k n : Nat} {c : UInt8} (hk : k < s.length) (h : one s k = some (c, n)) : readL (s.drop k) = (readL (s.drop (k + n))).map (c :: ·) := by
  rw [List.drop_eq_getElem_cons hk]
  unfold one at h
  rw [if_neg (by omega), show ((k : Int)).toNat = k from rfl, List.getElem?_eq_getElem hk] at h
  simp only at h
  conv => lhs; unfold readL
  split at h
  · rename_i hf
    cases h
    rw [if_pos hf]
  · rename_i hf
    rw [if_neg hf]
    split at h
    · rename_i hc
      rw [if_pos hc]
      simp [hexAt] at h
      obtain ⟨x, ⟨-, h⟩, rfl, rfl⟩ := h
      by_cases h2 : k + 1 + 1 < s.length
      · rw [List.drop_eq_getElem_cons (show k + 1 < s.length by omega), List.drop_eq_getElem_cons h2]
        rw [List.getElem?_eq_getElem (show k + 1 < s.length by omega), List.getElem?_eq_getElem h2] at h
        simp only at h
        simp only [h]
      · rw [List.getElem?_eq_none (show s.length ≤ k + 1 + 1 by omega)] at h
        split at h <;> simp_all
    · cases h
def writeL (s : List UInt8) : List UInt8 := s.flatMap fun c => if free c then [c] else 37 :: pair c
def readV : Option (List UInt8) → Go.Value
  | none => .tuple #[.string ⟨#[]⟩, .int .i64 7]
  | some l => .tuple #[.string ⟨l.toArray⟩, .int .i64 0]
attribute [simp] readV
theorem readL_step {s acc : List UInt8} {k n : Nat} {c : UInt8} (hk : k < s.length) (h : one s k = some (c, n)) (ha : readL s = (readL (s.drop k)).map (acc ++ ·)) : readL s = (readL (s.drop (k + n))).map ((acc ++ [c]) ++ ·) := by
  rw [ha, readL_some hk h]; cases readL (s.drop (k + n)) <;> simp
end Nun
namespace Go.Proofs.Ytbkhgmehfgfmfaa
open Go.RowKit Nun
theorem onep_of (s : ByteArray) (n : Int) (o : Option (UInt8 × Nat)) (h : one s.data.toList n = o) (w : World) (hs : s.size ≤ 1000000000) : Calls Try.prog 17 #[.string s, .int .i64 n] w (Same (oneV o) w) := h ▸ one_pct s n w hs
theorem oner_of (s : ByteArray) (n : Int) (o : Option (UInt8 × Nat)) (h : one s.data.toList n = o) (w : World) (hs : s.size ≤ 1000000000) : Calls Try.prog 18 #[.string s, .int .i64 n] w (Ret (oneV o) w) := h ▸ one_ref s n w hs

set_option maxHeartbeats 1000000 in
theorem read_pct (s : ByteArray) (w : World) (hs : s.size ≤ 1000000000) : Calls Try.prog 11 #[.string s] w (Ret (readV (readL s.data.toList)) w) := by
  have hlen : s.data.toList.length = s.size := rfl
  have HL := Lib.hid hlen; clear hlen
  go_enter Try.func11, Try.ntmps11
  go_wp2
  go_loopw [4, 5, 6, 7, 8] (fun v i _ _ _ wr => ∃ (k : Nat) (acc : List UInt8), k ≤ s.size ∧ i = .int .i64 k ∧ acc.length ≤ k ∧ OwnB w.heap.size 5 v acc wr ∧ Below w.heap.size w wr ∧ Hid (readL s.data.toList = (readL (s.data.toList.drop k)).map (acc ++ ·)))
    (fun _ i _ _ _ _ => s.size - (intOf i).toNat)
  case atStart => exact ⟨0, [], Nat.zero_le _, rfl, by simp, OwnB.nil _ _ _, Below.refl _ _, Lib.hid (by simp)⟩
  case round =>
    obtain ⟨k, acc, hk, rfl, hak, hown, hbel, hrd⟩ := hrel
    by_cases hlt : k < s.size
    · rcases ho : one s.data.toList k with _ | ⟨c, n⟩
      · have hfin : readL s.data.toList = none := by rw [hrd.out, readL_none (by rw [HL.out]; exact hlt) ho]; rfl
        have HO := Lib.hid ho; clear ho
        have HF := Lib.hid hfin; clear hfin
        go_wp2_with (go_at_call 17; refine (onep_of _ _ _ HO.out _ hs).mono ?_; rintro e w' ⟨rfl, rfl⟩)
        go_ret2
        rw [HF.out]
        exact ⟨rfl, hbel⟩
      · obtain ⟨hn0, hn1⟩ := one_size ho
        rw [HL.out] at hn1
        have hst := Lib.hid (readL_step (by rw [HL.out]; exact hlt) ho hrd.out)
        have HO := Lib.hid ho; clear ho hrd
        go_wp2_with (first | (go_at_call 17; refine (onep_of _ _ _ HO.out _ hs).mono ?_; rintro e w' ⟨rfl, rfl⟩) | (at_builtin; refine pushb (by rfl) _ _ _ (by rfl) 5 Try.underlying34 infoByte w.heap.size wr _ _ (by rfl) hown c (by rfl) (by omega) hbel.size ?_; intro g cap w1 hg hown1 hgr hb1 hsz1))
        go_roundw
        case rel => exact ⟨k + n, acc ++ [c], by omega, by go_num, by simp; omega, hown1, hbel.trans hb1, hst⟩
        case measure => simp [intOf]; omega
    · obtain rfl : k = s.size := by omega
      have hfin : readL s.data.toList = some acc := by
        rw [hrd.out, List.drop_of_length_le (by rw [HL.out]; exact Nat.le_refl _)]; simp [readL]
      have HF := Lib.hid hfin; clear hfin
      have kc := conv_own (P := Try.prog) Try.underlying34 Try.underlying5 Try.underlying9 hown
      go_wp2
      go_ret2
      rw [HF.out]
      exact ⟨rfl, hbel⟩
end Go.Proofs.Ytbkhgmehfgfmfaa
