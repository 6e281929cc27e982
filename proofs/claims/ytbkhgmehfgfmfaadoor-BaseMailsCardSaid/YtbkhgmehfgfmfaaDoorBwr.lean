/- b64.Wrap, nuncioref04.Wrap. -/
import Derived.Test.YtbkhgmehfgfmfaaDoorBen
set_option linter.unusedVariables false
set_option synthInstance.maxSize 4000
namespace Nun
def wrapL (m : Nat) (l : List UInt8) : List UInt8 := if h : m + 1 < l.length then l.take (m + 1) ++ [13, 10] ++ wrapL m (l.drop (m + 1)) else l
termination_by l.length
decreasing_by simp; omega
def wrapI (n : Int) (l : List UInt8) : List UInt8 := if n < 1 then l else wrapL (n - 1).toNat l
theorem wrapL_more {m : Nat} {l : List UInt8} (h : m + 1 < l.length) : wrapL m l = l.take (m + 1) ++ [13, 10] ++ wrapL m (l.drop (m + 1)) := by rw [wrapL, dif_pos h]
theorem wrapL_end {m : Nat} {l : List UInt8} (h : ¬ m + 1 < l.length) : wrapL m l = l := by rw [wrapL, dif_neg h]
theorem len_data (b : ByteArray) : b.data.toList.length = b.size := rfl
theorem crlf_size : (ByteArray.mk #[13, 10]).size = 2 := rfl
end Nun
namespace Go.Proofs.YtbkhgmehfgfmfaaDoor
open Go.RowKit Nun
set_option maxHeartbeats 1000000 in
theorem wrap64 (s : ByteArray) (n : Int) (w : World) (hs : s.size ≤ 1000000) : Calls Tryd.prog 13 #[.string s, .int .i64 n] w (Ret (.string ⟨(wrapI n s.data.toList).toArray⟩) w) := by
  have hlen : s.data.toList.length = s.size := rfl
  have HL := Lib.hid hlen; clear hlen
  by_cases hn : n < 1
  · go_enter Tryd.func13, Tryd.ntmps13
    go_wp2
    go_ret
    exact ⟨r1 (vS (by unfold wrapI; rw [if_pos hn])), Below.refl _ _⟩
  · obtain ⟨m, rfl⟩ : ∃ m : Nat, n = (m : Int) + 1 := ⟨(n - 1).toNat, by omega⟩
    have hw : wrapI ((m : Int) + 1) s.data.toList = wrapL m s.data.toList := by unfold wrapI; rw [if_neg hn]; congr 1; omega
    rw [hw]; clear hw
    go_enter Tryd.func13, Tryd.ntmps13
    go_wp2
    go_loopw [0] (fun b wr => ∃ (k : Nat) (t : ByteArray) (acc : List UInt8), k ≤ s.size ∧ b = .string t ∧ t.size + k = s.size ∧ Bd w.heap.size w.heap.size acc wr ∧ acc.length ≤ 3 * k ∧ Below w.heap.size w wr ∧ Hid (t.data.toList = s.data.toList.drop k) ∧ Hid (wrapL m s.data.toList = acc ++ wrapL m (s.data.toList.drop k)))
      (fun b _ => match b with | .string t => t.size | _ => 0)
    case atStart => exact ⟨0, s, [], Nat.zero_le _, rfl, rfl, Bd.fresh w, by simp, (Below.refl _ _).alloc (Nat.le_refl _) _, Lib.hid rfl, Lib.hid rfl⟩
    case round =>
      obtain ⟨k, t, acc, hk, rfl, ht, hbd, hak, hbel, htd, henc⟩ := hrel
      by_cases hlt : m + 1 < t.size
      · have hst := wrapL_more (m := m) (l := s.data.toList.drop k) (by rw [List.length_drop, HL.out]; omega)
        rw [List.drop_drop, ← htd.out] at hst
        have HS := Lib.hid hst; clear hst
        have hx : (t.extract 0 (m + 1)).size = m + 1 := by rw [ByteArray.size_extract]; omega
        go_wp2_with (go_at_call 24; refine (bd_string _ _ _ _ _ hbd (by simp only [List.length_append, len_data, hx, crlf_size]; omega)).mono ?_; rintro e w2 ⟨rfl, hbd, hb2, _⟩; have hbel := hbel.trans hb2)
        go_roundw
        case rel =>
          have hd : (t.extract (m + 1) t.size).data.toList = s.data.toList.drop (k + (m + 1)) := by
            rw [Lib.extract_data, List.take_of_length_le (by rw [List.length_drop]; exact Nat.le_refl _), htd.out, List.drop_drop]
          refine ⟨k + (m + 1), _, _, by omega, rfl, ?_, hbd, by simp only [List.length_append, len_data, hx, crlf_size, List.length_cons, List.length_nil]; omega, hbel, Lib.hid hd, Lib.hid ?_⟩
          · rw [ByteArray.size_extract]; omega
          · rw [henc.out, ← htd.out, HS.out]; simp [Lib.extract_data]
        case measure => simp; omega
      · have hend := wrapL_end (m := m) (l := s.data.toList.drop k) (by rw [List.length_drop, HL.out]; omega)
        have hfin : wrapL m s.data.toList = acc ++ t.data.toList := by rw [henc.out, hend, htd.out]
        have HE := Lib.hid hfin; clear hfin hend
        go_wp2_with (first | (go_at_call 24; refine (bd_string _ _ _ _ _ hbd (by omega)).mono ?_; rintro e w2 ⟨rfl, hbd, hb2, _⟩; have hbel := hbel.trans hb2) | (go_at_call 22; refine (bd_text _ _ _ _ hbd).mono ?_; rintro e w2 ⟨rfl, hbd, hb2, _⟩; have hbel := hbel.trans hb2))
        go_ret
        rw [HE.out]
        exact ⟨rfl, hbel⟩
set_option maxHeartbeats 1000000 in
theorem wrap_ref (s : ByteArray) (n : Int) (w : World) (hs : s.size ≤ 1000000) : Calls Tryd.prog 14 #[.string s, .int .i64 n] w (Ret (.string ⟨(wrapI n s.data.toList).toArray⟩) w) := by
  have hlen : s.data.toList.length = s.size := rfl
  have HL := Lib.hid hlen; clear hlen
  by_cases hn : n < 1
  · go_enter Tryd.func14, Tryd.ntmps14
    go_wp2
    go_ret
    exact ⟨r1 (vS (by unfold wrapI; rw [if_pos hn])), Below.refl _ _⟩
  · obtain ⟨m, rfl⟩ : ∃ m : Nat, n = (m : Int) + 1 := ⟨(n - 1).toNat, by omega⟩
    have hw : wrapI ((m : Int) + 1) s.data.toList = wrapL m s.data.toList := by unfold wrapI; rw [if_neg hn]; congr 1; omega
    rw [hw]; clear hw
    go_enter Tryd.func14, Tryd.ntmps14
    go_wp2
    go_loopw [0, 5] (fun b o wr => ∃ (k : Nat) (t : ByteArray) (acc : List UInt8), k ≤ s.size ∧ b = .string t ∧ t.size + k = s.size ∧ o = .string ⟨acc.toArray⟩ ∧ acc.length ≤ 3 * k ∧ Below w.heap.size w wr ∧ Hid (t.data.toList = s.data.toList.drop k) ∧ Hid (wrapL m s.data.toList = acc ++ wrapL m (s.data.toList.drop k)))
      (fun b _ _ => match b with | .string t => t.size | _ => 0)
    case atStart => exact ⟨0, s, [], Nat.zero_le _, rfl, rfl, rfl, by simp, Below.refl _ _, Lib.hid rfl, Lib.hid rfl⟩
    case round =>
      obtain ⟨k, t, acc, hk, rfl, ht, rfl, hak, hbel, htd, henc⟩ := hrel
      by_cases hlt : m + 1 < t.size
      · have hst := wrapL_more (m := m) (l := s.data.toList.drop k) (by rw [List.length_drop, HL.out]; omega)
        rw [List.drop_drop, ← htd.out] at hst
        have HS := Lib.hid hst; clear hst
        have hx : (t.extract 0 (m + 1)).size = m + 1 := by rw [ByteArray.size_extract]; omega
        go_wp2
        go_roundw
        case rel =>
          have hd : (t.extract (m + 1) t.size).data.toList = s.data.toList.drop (k + (m + 1)) := by
            rw [Lib.extract_data, List.take_of_length_le (by rw [List.length_drop]; exact Nat.le_refl _), htd.out, List.drop_drop]
          refine ⟨k + (m + 1), _, acc ++ (t.extract 0 (m + 1)).data.toList ++ [13, 10], by omega, rfl, ?_, vS (by simp [ByteArray.toList_data_append]), by simp only [List.length_append, len_data, hx, List.length_cons, List.length_nil]; omega, hbel, Lib.hid hd, Lib.hid ?_⟩
          · rw [ByteArray.size_extract]; omega
          · rw [henc.out, ← htd.out, HS.out]; simp [Lib.extract_data]
        case measure => simp; omega
      · have hend := wrapL_end (m := m) (l := s.data.toList.drop k) (by rw [List.length_drop, HL.out]; omega)
        have hfin : wrapL m s.data.toList = acc ++ t.data.toList := by rw [henc.out, hend, htd.out]
        have HE := Lib.hid hfin; clear hfin hend
        go_wp2
        go_ret
        rw [HE.out]
        exact ⟨r1 (vS (by simp [ByteArray.toList_data_append])), hbel⟩
end Go.Proofs.YtbkhgmehfgfmfaaDoor
