/- Contracts of octet.Begins, nuncioref01.Begins, qp.plain, nuncioref05.Plain, and the two Decodes of quoted-printable. -/
import Derived.Test.YtbkhgmehfgfmfaaOct
import Derived.Test.YtbkhgmehfgfmfaaBld
import Derived.Test.YtbkhgmehfgfmfaaRun
set_option linter.unusedVariables false
set_option synthInstance.maxSize 4000
namespace Nun
def plainB (c : UInt8) : Bool := 33 ≤ c && c ≤ 126 && c != 61
/-- What a step of decoding gives: bytes, and how many bytes it takes. -/
def dstep (s : List UInt8) (k : Nat) : Option (List UInt8 × Nat) :=
  match s[k]? with
  | none => none
  | some c => if begins s [13, 10] k then some ([10], 2) else if begins s [61, 13, 10] k then some ([], 3)
    else if c = 61 then (hexAt s (k + 1)).map fun b => ([b], 3) else if plainB c || c == 32 || c == 9 then some ([c], 1) else none
theorem dstep_pos (s : List UInt8) : ∀ k o n, dstep s k = some (o, n) → 0 < n := by
  intro k o n h
  unfold dstep at h
  split at h
  · cases h
  · repeat' split at h
    all_goals first | (cases h; omega) | skip
    · simp at h; omega
    · cases h
theorem dstep_eq (s : ByteArray) (k : Nat) (hk : k < s.size) (b1 b2 : Bool) (h1 : begins s.data.toList [13, 10] k = b1) (h2 : begins s.data.toList [61, 13, 10] k = b2) : dstep s.data.toList k =
    if b1 then some ([10], 2) else if b2 then some ([], 3) else if s[k] = 61 then (hexAt s.data.toList (k + 1)).map (fun b => ([b], 3)) else if plainB s[k] || s[k] == 32 || s[k] == 9 then some ([s[k]], 1) else none := by
  unfold dstep
  rw [List.getElem?_eq_getElem (show k < s.data.toList.length from hk)]
  simp only [h1, h2]; rfl
def decL (s : List UInt8) : Option (List UInt8) := runFrom (dstep s) s.length 0
def decV : Option (List UInt8) → Go.Value
  | none => .tuple #[.string ⟨#[]⟩, .int .i64 7]
  | some l => .tuple #[.string ⟨l.toArray⟩, .int .i64 0]
attribute [simp] decV
end Nun
namespace Go.Proofs.Ytbkhgmehfgfmfaa
open Go.RowKit Nun
set_option maxHeartbeats 400000 in
theorem begins_any (s t : ByteArray) (n : Int) (w : World) (hs : s.size ≤ 1000000000) : Calls Try.prog 34 #[.string s, .string t, .int .i64 n] w (Same (.bool (begins s.data.toList t.data.toList n)) w) := by
  by_cases h : 0 ≤ n ∧ n ≤ s.size
  · obtain ⟨h1, h2⟩ := h
    obtain ⟨k, rfl⟩ := Int.eq_ofNat_of_zero_le h1
    have hb : begins s.data.toList t.data.toList (k : Int) = Lib.hasPrefix (s.extract k s.size).data.toList t.data.toList := by
      rw [begins_nat _ _ _ (by show k ≤ s.size; omega), Lib.extract_to_end]; rfl
    have HB := Lib.hid hb; clear hb
    go_enter Try.func34, Try.ntmps34
    go_wp2_with (go_at_call 46; refine (Try.strings_HasPrefix _ _ _).mono ?_; rintro e w' ⟨rfl, rfl⟩)
    go_ret
    exact ⟨r1 (vb (by rw [HB.out]; simp)), rfl⟩
  · have hb : begins s.data.toList t.data.toList n = false := by
      unfold begins
      by_cases h0 : 0 ≤ n
      · rw [decide_eq_false (p := n ≤ (s.data.toList.length : Int)) (by show ¬ n ≤ (s.size : Int); omega)]; simp
      · rw [decide_eq_false h0]; simp
    have HB := Lib.hid hb; clear hb
    by_cases h0 : 0 ≤ n
    · have h1 : decide (n ≤ (s.size : Int)) = false := by simp; omega
      go_enter Try.func34, Try.ntmps34
      go_wp2
      go_ret
      exact ⟨r1 (vb (by rw [HB.out])), rfl⟩
    · go_enter Try.func34, Try.ntmps34
      go_wp2
      go_ret
      exact ⟨r1 (vb (by rw [HB.out])), rfl⟩

set_option maxHeartbeats 400000 in
theorem beginsR_any (s t : ByteArray) (n : Int) (w : World) (hs : s.size ≤ 1000000000) (ht : t.size ≤ 1000000000) : Calls Try.prog 37 #[.string s, .string t, .int .i64 n] w (Same (.bool (begins s.data.toList t.data.toList n)) w) := by
  by_cases h : 0 ≤ n ∧ n ≤ s.size
  · obtain ⟨h1, h2⟩ := h
    obtain ⟨k, rfl⟩ := Int.eq_ofNat_of_zero_le h1
    have hb : begins s.data.toList t.data.toList (k : Int) = t.data.toList.isPrefixOf (s.data.toList.drop k) := begins_nat _ _ _ (by show k ≤ s.size; omega)
    by_cases h3 : (t.size : Int) ≤ (s.size : Int) - k
    · have hb2 : begins s.data.toList t.data.toList (k : Int) = ((s.extract k (k + t.size)).data.toList == t.data.toList) := by
        rw [hb, Lib.extract_data, Nat.add_sub_cancel_left]
        rw [Bool.eq_iff_iff, List.isPrefixOf_iff_prefix, beq_iff_eq, List.prefix_iff_eq_take]
        exact eq_comm
      have HB := Lib.hid hb2; clear hb hb2
      go_enter Try.func37, Try.ntmps37
      go_wp2
      go_ret
      exact ⟨r1 (vb (by rw [HB.out, ← Lib.toList_data, ← Lib.toList_data])), rfl⟩
    · have hb2 : begins s.data.toList t.data.toList (k : Int) = false := by
        rw [hb, Bool.eq_false_iff]; intro h4
        have := (List.isPrefixOf_iff_prefix.1 h4).length_le
        rw [List.length_drop] at this
        have e1 : s.data.toList.length = s.size := rfl
        have e2 : t.data.toList.length = t.size := rfl
        omega
      have HB := Lib.hid hb2; clear hb hb2
      have h4 : decide ((t.size : Int) ≤ (s.size : Int) - k) = false := by simp; omega
      go_enter Try.func37, Try.ntmps37
      go_wp2
      go_ret
      exact ⟨r1 (vb (by rw [HB.out])), rfl⟩
  · have hb : begins s.data.toList t.data.toList n = false := by
      unfold begins
      by_cases h0 : 0 ≤ n
      · rw [decide_eq_false (p := n ≤ (s.data.toList.length : Int)) (by show ¬ n ≤ (s.size : Int); omega)]; simp
      · rw [decide_eq_false h0]; simp
    have HB := Lib.hid hb; clear hb
    by_cases h0 : 0 ≤ n
    · have h1 : decide (n ≤ (s.size : Int)) = false := by simp; omega
      go_enter Try.func37, Try.ntmps37
      go_wp2
      go_ret
      exact ⟨r1 (vb (by rw [HB.out])), rfl⟩
    · go_enter Try.func37, Try.ntmps37
      go_wp2
      go_ret
      exact ⟨r1 (vb (by rw [HB.out])), rfl⟩

set_option maxHeartbeats 400000 in
set_option maxRecDepth 100000 in
theorem plain_qp (c : UInt8) (w : World) : Calls Try.prog 35 #[.int .u8 c.toNat] w (Same (.bool (plainB c)) w) := by
  go_enter Try.func35, Try.ntmps35
  go_wp2
  all_goals (go_ret; refine ⟨r1 (vb ?_), rfl⟩)
  all_goals (go_light; revert c; decide +kernel)
set_option maxHeartbeats 400000 in
set_option maxRecDepth 100000 in
theorem plain_ref (c : UInt8) (w : World) : Calls Try.prog 38 #[.int .u8 c.toNat] w (Same (.bool (plainB c)) w) := by
  go_enter Try.func38, Try.ntmps38
  go_wp2
  all_goals (go_ret; refine ⟨r1 (vb ?_), rfl⟩)
  all_goals (go_light; revert c; decide +kernel)
end Go.Proofs.Ytbkhgmehfgfmfaa
