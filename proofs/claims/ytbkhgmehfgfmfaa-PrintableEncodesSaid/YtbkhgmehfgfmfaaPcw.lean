/- Contracts of pct.Write and nuncioref08.Read, Write. -/
import Derived.Test.YtbkhgmehfgfmfaaPcr
import Derived.Test.YtbkhgmehfgfmfaaGen
set_option linter.unusedVariables false
set_option synthInstance.maxSize 4000
namespace Nun
theorem writeL_snoc (s : List UInt8) (c : UInt8) : writeL (s ++ [c]) = writeL s ++ if free c then [c] else 37 :: pair c := by
  unfold writeL; rw [List.flatMap_append]; simp
theorem writeL_len (s : List UInt8) : (writeL s).length ≤ 3 * s.length := by
  induction s with
  | nil => simp [writeL]
  | cons c t ih =>
    unfold writeL at *
    rw [List.flatMap_cons, List.length_append, List.length_cons]
    have : (if free c = true then [c] else 37 :: pair c).length ≤ 3 := by split <;> simp [pair]
    omega
theorem take_snoc (s : List UInt8) (k : Nat) (h : k < s.length) : s.take (k + 1) = s.take k ++ [s[k]] := by
  rw [List.take_succ_eq_append_getElem h]
end Nun
namespace Go.Proofs.Ytbkhgmehfgfmfaa
open Go.RowKit Nun
set_option maxHeartbeats 1000000 in
theorem read_ref (s : ByteArray) (w : World) (hs : s.size ≤ 1000000000) : Calls Try.prog 16 #[.string s] w (Ret (readV (readL s.data.toList)) w) := by
  have hlen : s.data.toList.length = s.size := rfl
  have HL := Lib.hid hlen; clear hlen
  go_enter Try.func16, Try.ntmps16
  go_wp2
  go_loopw [4, 5, 6, 7, 8] (fun v i _ _ _ wr => ∃ (k : Nat) (acc : List UInt8), k ≤ s.size ∧ i = .int .i64 k ∧ acc.length ≤ k ∧ OwnB w.heap.size 5 v acc wr ∧ Below w.heap.size w wr ∧ Hid (readL s.data.toList = (readL (s.data.toList.drop k)).map (acc ++ ·)))
    (fun _ i _ _ _ _ => s.size - (intOf i).toNat)
  case atStart => exact ⟨0, [], Nat.zero_le _, rfl, by simp, OwnB.made w (Nat.le_refl _) _ _ rfl (by decide), (Below.refl _ _).alloc (Nat.le_refl _) _, Lib.hid (by simp)⟩
  case round =>
    obtain ⟨k, acc, hk, rfl, hak, hown, hbel, hrd⟩ := hrel
    by_cases hlt : k < s.size
    · rcases ho : one s.data.toList k with _ | ⟨c, n⟩
      · have hfin : readL s.data.toList = none := by rw [hrd.out, readL_none (by rw [HL.out]; exact hlt) ho]; rfl
        have HO := Lib.hid ho; clear ho
        have HF := Lib.hid hfin; clear hfin
        go_wp2_with (go_at_call 18; refine (oner_of _ _ _ HO.out _ hs).mono ?_; rintro e w' ⟨rfl, hb0⟩)
        go_ret2
        rw [HF.out]
        exact ⟨rfl, hbel.trans (hb0.mono hbel.size)⟩
      · obtain ⟨hn0, hn1⟩ := one_size ho
        rw [HL.out] at hn1
        have hst := Lib.hid (readL_step (by rw [HL.out]; exact hlt) ho hrd.out)
        have HO := Lib.hid ho; clear ho hrd
        go_wp2_with (first | (go_at_call 18; refine (oner_of _ _ _ HO.out _ hs).mono ?_; rintro e wo ⟨rfl, hb0⟩; have hown0 := OwnB.kept hown hb0; have hbel0 := hbel.trans (hb0.mono hbel.size)) | (at_builtin; refine pushb (by rfl) _ _ _ (by rfl) 5 Try.underlying34 infoByte w.heap.size wo _ _ (by rfl) hown0 c (by rfl) (by omega) hbel0.size ?_; intro g cap w1 hg hown1 hgr hb1 hsz1))
        go_roundw
        case rel => exact ⟨k + n, acc ++ [c], by omega, by go_num, by simp; omega, hown1, hbel0.trans hb1, hst⟩
        case measure => simp [intOf]; omega
    · obtain rfl : k = s.size := by omega
      have hfin : readL s.data.toList = some acc := by
        rw [hrd.out, List.drop_of_length_le (by rw [HL.out]; exact Nat.le_refl _)]; simp [readL]
      have HF := Lib.hid hfin; clear hfin
      have kc := conv_own (P := Try.prog) Try.underlying34 Try.underlying5 Try.underlying9 hown
      go_wp2
      go_ret2
      rw [HF.out]
      exact ⟨rfl, hbel⟩

set_option maxHeartbeats 1000000 in
theorem write_ref (s : ByteArray) (w : World) (hs : s.size ≤ 1000000000) : Calls Try.prog 12 #[.string s] w (Ret (.string ⟨(writeL s.data.toList).toArray⟩) w) := by
  have hlen : s.data.toList.length = s.size := rfl
  have HL := Lib.hid hlen; clear hlen
  go_enter Try.func12, Try.ntmps12
  go_wp2
  go_loopw [3, 4] (fun v i wr => ∃ (k : Nat) (acc : List UInt8), k ≤ s.size ∧ i = .int .i64 k ∧ v = .string ⟨acc.toArray⟩ ∧ acc.length ≤ 3 * k ∧ Below w.heap.size w wr ∧ Hid (acc = writeL (s.data.toList.take k)))
    (fun _ i _ => s.size - (intOf i).toNat)
  case atStart => exact ⟨0, [], Nat.zero_le _, rfl, rfl, by simp, Below.refl _ _, Lib.hid (by simp [writeL])⟩
  case round =>
    obtain ⟨k, acc, hk, rfl, rfl, hak, hbel, hacc⟩ := hrel
    by_cases hlt : k < s.size
    · have hst : writeL (s.data.toList.take (k + 1)) = acc ++ if free s[k] then [s[k]] else 37 :: pair s[k] := by
        rw [take_snoc _ _ (by rw [HL.out]; exact hlt), writeL_snoc, hacc.out]; rfl
      have hp : (pair s[k]).length ≤ 2 := by simp [pair]
      generalize hb : free s[k] = b at hst
      have HB := Lib.hid hb; clear hb
      have hst' := Lib.hid hst; clear hst
      cases b
      all_goals
        go_wp2_with (first | (go_at_call 14; refine (freeR_of _ _ HB.out _).mono ?_; rintro e w' ⟨rfl, rfl⟩) | (go_at_call 27; refine (pair_ref _ _).mono ?_; rintro e w1 ⟨rfl, hb1⟩))
        try replace hbel := hbel.trans (hb1.mono hbel.size)
        go_roundw
        case rel => exact ⟨k + 1, _, by omega, by go_num, vS (by first | (rw [ByteArray.toList_data_append, ext1 _ _ hlt]; simp) | simp [ByteArray.toList_data_append]), by simp; omega, hbel, Lib.hid hst'.out.symm⟩
        case measure => simp [intOf]; omega
    · obtain rfl : k = s.size := by omega
      go_wp2
      go_ret
      exact ⟨r1 (vs (by rw [hacc.out, List.take_of_length_le (by rw [HL.out]; exact Nat.le_refl _)])), hbel⟩

set_option maxHeartbeats 1000000 in
theorem keep_any (c : UInt8) (w : World) : Calls Try.prog 26 #[.int .u8 c.toNat] w (Same (.bool (free c)) w) := by
  go_enter Try.func26, Try.ntmps26
  go_wp2_with (go_at_call 13; refine (free_pct _ _).mono ?_; rintro e w' ⟨rfl, rfl⟩)
  go_ret
  exact ⟨rfl, rfl⟩
theorem keep_of (c : UInt8) (b : Bool) (h : free c = b) (w : World) : Calls Try.prog 26 #[.int .u8 c.toNat] w (Same (.bool b) w) := h ▸ keep_any c w
set_option maxHeartbeats 1000000 in
theorem turned_any (s : ByteArray) (w : World) (hs : s.size ≤ 1000000000) : Calls Try.prog 25 #[.string s, .func (.func 26) #[] #[]] w (Ret (.string ⟨(writeL s.data.toList).toArray⟩) w) := by
  have hlen : s.data.toList.length = s.size := rfl
  have HL := Lib.hid hlen; clear hlen
  go_enter Try.func25, Try.ntmps25
  go_wp2
  go_loopw [6, 9] (fun _ i wr => ∃ (k : Nat) (acc : List UInt8), k ≤ s.size ∧ i = .int .i64 k ∧ Bd w.heap.size w.heap.size acc wr ∧ acc.length ≤ 3 * k ∧ Below w.heap.size w wr ∧ Hid (acc = writeL (s.data.toList.take k)))
    (fun _ i _ => s.size - (intOf i).toNat)
  case atStart => exact ⟨0, [], Nat.zero_le _, rfl, Bd.fresh w, by simp, (Below.refl _ _).alloc (Nat.le_refl _) _, Lib.hid (by simp [writeL])⟩
  case round =>
    obtain ⟨k, acc, hk, rfl, hbd, hak, hbel, hacc⟩ := hrel
    by_cases hlt : k < s.size
    · have hst : writeL (s.data.toList.take (k + 1)) = acc ++ if free s[k] then [s[k]] else 37 :: pair s[k] := by
        rw [take_snoc _ _ (by rw [HL.out]; exact hlt), writeL_snoc, hacc.out]; rfl
      have hp : (pair s[k]).length ≤ 2 := by simp [pair]
      generalize hb : free s[k] = b at hst
      have HB := Lib.hid hb; clear hb
      have hst' := Lib.hid hst; clear hst
      cases b
      · go_wp2_with (first | (go_at_call 26; refine (keep_of _ _ HB.out _).mono ?_; rintro e w' ⟨rfl, rfl⟩) | (go_at_call 40; refine (pair_any _ _).mono ?_; rintro e w1 ⟨rfl, hb1⟩; have hbd1 := Bd.kept hbd hb1) | (go_at_call 32; refine (bd_string _ _ _ _ _ hbd1 (by simp [ByteArray.size_append, mk_size]; omega)).mono ?_; rintro e w2 ⟨rfl, hbd2, hb2, _⟩))
        go_roundw
        case rel => exact ⟨k + 1, _, by omega, by go_num, hbd2, by simp; omega, (hbel.trans (hb1.mono hbel.size)).trans hb2, Lib.hid hst'.out.symm⟩
        case measure => simp [intOf]; omega
      · go_wp2_with (first | (go_at_call 26; refine (keep_of _ _ HB.out _).mono ?_; rintro e w' ⟨rfl, rfl⟩) | (go_at_call 39; refine (bd_byte _ _ _ _ _ hbd (by omega)).mono ?_; rintro e w2 ⟨rfl, hbd2, hb2, _⟩))
        go_roundw
        case rel => exact ⟨k + 1, _, by omega, by go_num, hbd2, by simp; omega, hbel.trans hb2, Lib.hid (by rw [hst'.out]; simp)⟩
        case measure => simp [intOf]; omega
    · obtain rfl : k = s.size := by omega
      go_wp2_with (go_at_call 33; refine (bd_text _ _ _ _ hbd).mono ?_; rintro e w2 ⟨rfl, hbd2, hb2, _⟩)
      go_ret
      exact ⟨r1 (vs (by rw [hacc.out, List.take_of_length_le (by rw [HL.out]; exact Nat.le_refl _)])), hbel.trans hb2⟩
set_option maxHeartbeats 1000000 in
theorem write_pct (s : ByteArray) (w : World) (hs : s.size ≤ 1000000000) : Calls Try.prog 10 #[.string s] w (Ret (.string ⟨(writeL s.data.toList).toArray⟩) w) := by
  go_enter Try.func10, Try.ntmps10
  go_wp2_with (go_at_call 25; refine (turned_any _ _ hs).mono ?_; rintro e w2 ⟨rfl, hb2⟩)
  go_ret
  exact ⟨rfl, hb2⟩
end Go.Proofs.Ytbkhgmehfgfmfaa
