/- The reference's readers of a value: blanks, plain, run, quoted. -/
import Derived.Test.YtdfflbpifpoogaaDoorHre
import Derived.Test.YtdfflbpifpoogaaDoorHpq
set_option linter.unusedVariables false
set_option synthInstance.maxSize 4000
namespace Nun
open Go Go.RowKit
/-- The place behind the bytes of a kind that stand at one. -/
def endW (p : UInt8 → Bool) (l : List UInt8) (k : Nat) : Nat := k + ((l.drop k).takeWhile p).length
theorem endW_step {p : UInt8 → Bool} {l : List UInt8} {k : Nat} (h : k < l.length) (hp : p l[k] = true) : endW p l k = endW p l (k + 1) := by
  unfold endW
  rw [List.drop_eq_getElem_cons h, List.takeWhile_cons, hp]
  simp; omega
theorem endW_stop {p : UInt8 → Bool} {l : List UInt8} {k : Nat} (h : k < l.length) (hp : p l[k] = false) : endW p l k = k := by
  unfold endW
  rw [List.drop_eq_getElem_cons h, List.takeWhile_cons, hp]
  simp
theorem endW_end {p : UInt8 → Bool} {l : List UInt8} {k : Nat} (h : l.length ≤ k) : endW p l k = k := by
  unfold endW
  rw [List.drop_of_length_le h]; rfl
theorem endW_ge (p : UInt8 → Bool) (l : List UInt8) (k : Nat) : k ≤ endW p l k := Nat.le_add_right _ _
theorem endW_le (p : UInt8 → Bool) (l : List UInt8) (k : Nat) (h : k ≤ l.length) : endW p l k ≤ l.length := by
  unfold endW
  have := takeWhile_len p (l.drop k)
  rw [List.length_drop] at this; omega
theorem take_tw (p : UInt8 → Bool) : ∀ l : List UInt8, l.take (l.takeWhile p).length = l.takeWhile p ∧ l.drop (l.takeWhile p).length = l.dropWhile p
  | [] => ⟨rfl, rfl⟩
  | c :: l => by
    rw [List.takeWhile_cons, List.dropWhile_cons]
    rcases p c with _ | _
    · exact ⟨rfl, rfl⟩
    · have := take_tw p l
      simp [this.1, this.2]
theorem endW_drop (p : UInt8 → Bool) (l : List UInt8) (k : Nat) : l.drop (endW p l k) = (l.drop k).dropWhile p := by
  unfold endW
  rw [← List.drop_drop, (take_tw p (l.drop k)).2]
theorem endW_slice (p : UInt8 → Bool) (s : ByteArray) (k : Nat) : (s.extract k (endW p s.data.toList k)).data.toList = (s.data.toList.drop k).takeWhile p := by
  rw [Lib.extract_data]
  unfold endW
  rw [Nat.add_sub_cancel_left, (take_tw p _).1]
theorem begL_sign (l : List UInt8) (c : UInt8) (k : Nat) : begL l [c] k = (signL c (l.drop k)).isSome := by
  unfold begL
  rcases hd : l.drop k with _ | ⟨a, t⟩
  · simp [signL]
  · have hk : k ≤ l.length := by
      rcases Nat.lt_or_ge l.length k with h | h
      · rw [List.drop_of_length_le (Nat.le_of_lt h)] at hd; cases hd
      · exact h
    rw [decide_eq_true hk]
    by_cases hc : a = c
    · simp [signL, hc]
    · simp [signL, hc]
theorem signL_drop {l t : List UInt8} {c : UInt8} {k : Nat} (h : signL c (l.drop k) = some t) : t = l.drop (k + 1) ∧ k + 1 ≤ l.length := by
  by_cases hk : k < l.length
  · rw [List.drop_eq_getElem_cons hk, signL] at h
    split at h
    · exact ⟨(Option.some.inj h).symm, hk⟩
    · cases h
  · rw [List.drop_of_length_le (by omega)] at h; cases h
theorem quoteD_drop (l : List UInt8) (k : Nat) : quoteD l k = quotedL ((l.drop k).length + 1) (l.drop k) := by
  unfold quoteD; rw [List.length_drop]
theorem one_byte (s : ByteArray) (j : Nat) (h : j < s.size) : (s.extract j (j + 1)).data.toList = [s[j]] := by
  rw [Lib.extract_data, List.drop_eq_getElem_cons (show j < s.data.toList.length from h), show j + 1 - j = 1 by omega]; rfl
theorem app_data (a b : ByteArray) : (a ++ b).data.toList = a.data.toList ++ b.data.toList := by simp
end Nun
namespace Go.Proofs.YtdfflbpifpoogaaDoor
open Go Go.RowKit Nun
set_option maxHeartbeats 1000000 in
theorem plain_ref (c : UInt8) (w : World) : Calls Tryd.prog 51 #[.int .u8 c.toNat] w (Same (.bool (plainC c)) w) := by
  go_enter Tryd.func51, Tryd.ntmps51
  go_wp2
  all_goals (go_ret; refine ⟨r1 (vb ?_), rfl⟩)
  all_goals (go_light; revert c; decide +kernel)
theorem plain_of13 (c : UInt8) (b : Bool) (h : plainC c = b) (w : World) : Calls Tryd.prog 51 #[.int .u8 c.toNat] w (Same (.bool b) w) := h ▸ plain_ref c w
theorem blank_of13 (c : UInt8) (b : Bool) (h : blankC c = b) (w : World) : Calls Tryd.prog 27 #[.int .u8 c.toNat] w (Same (.bool b) w) := h ▸ blank_ref13 c w
set_option maxHeartbeats 1000000 in
theorem blanks_ref (s : ByteArray) (k : Nat) (w : World) (hs : s.size ≤ 1000000) (hk : k ≤ s.size) (E : Nat) (hE : endW blankC s.data.toList k = E) : Calls Tryd.prog 37 #[.string s, .int .i64 k] w (Same (.int .i64 E) w) := by
  have HE := Lib.hid hE; clear hE
  go_enter Tryd.func37, Tryd.ntmps37
  go_wp2
  go_loop [1] (fun i => ∃ j : Nat, i = .int .i64 j ∧ j ≤ s.size ∧ Hid (endW blankC s.data.toList j = E)) (fun i => s.size - (intOf i).toNat)
  case atStart => exact ⟨k, rfl, hk, HE⟩
  case round =>
    clear hk HE
    obtain ⟨j, rfl, hj, hE⟩ := hrel
    by_cases hlt : j < s.size
    · rcases hb : blankC s[j] with _ | _
      · have HF := Lib.hid (show (j : Int) = E by rw [← hE.out, endW_stop (show j < s.data.toList.length from hlt) hb])
        have HB := Lib.hid hb; clear hb
        go_wp2_with (go_at_call 27; refine (blank_of13 _ false HB.out _).mono ?_; rintro e w1 ⟨rfl, rfl⟩)
        go_ret
        exact ⟨r1 (vi HF.out), rfl⟩
      · have HF := Lib.hid (show endW blankC s.data.toList (j + 1) = E by rw [← hE.out, ← endW_step (show j < s.data.toList.length from hlt) hb])
        have HB := Lib.hid hb; clear hb
        go_wp2_with (go_at_call 27; refine (blank_of13 _ true HB.out _).mono ?_; rintro e w1 ⟨rfl, rfl⟩)
        go_round
        case rel => exact ⟨j + 1, by go_num, by omega, HF⟩
        case measure => simp [intOf]; omega
    · have HF := Lib.hid (show (j : Int) = E by rw [← hE.out, endW_end (show s.data.toList.length ≤ j by show s.size ≤ j; omega)])
      have hlt2 : ¬ (j : Int) < (s.size : Int) := by omega
      go_wp2
      go_ret
      exact ⟨r1 (vi HF.out), rfl⟩
set_option maxHeartbeats 1000000 in
theorem run_ref (s : ByteArray) (k : Nat) (w : World) (hs : s.size ≤ 1000000) (hk : k ≤ s.size) (E : Nat) (hE : endW plainC s.data.toList k = E) : Calls Tryd.prog 38 #[.string s, .int .i64 k] w (Same (.int .i64 E) w) := by
  have HE := Lib.hid hE; clear hE
  go_enter Tryd.func38, Tryd.ntmps38
  go_wp2
  go_loop [1] (fun i => ∃ j : Nat, i = .int .i64 j ∧ j ≤ s.size ∧ Hid (endW plainC s.data.toList j = E)) (fun i => s.size - (intOf i).toNat)
  case atStart => exact ⟨k, rfl, hk, HE⟩
  case round =>
    clear hk HE
    obtain ⟨j, rfl, hj, hE⟩ := hrel
    by_cases hlt : j < s.size
    · rcases hb : plainC s[j] with _ | _
      · have HF := Lib.hid (show (j : Int) = E by rw [← hE.out, endW_stop (show j < s.data.toList.length from hlt) hb])
        have HB := Lib.hid hb; clear hb
        go_wp2_with (go_at_call 51; refine (plain_of13 _ false HB.out _).mono ?_; rintro e w1 ⟨rfl, rfl⟩)
        go_ret
        exact ⟨r1 (vi HF.out), rfl⟩
      · have HF := Lib.hid (show endW plainC s.data.toList (j + 1) = E by rw [← hE.out, ← endW_step (show j < s.data.toList.length from hlt) hb])
        have HB := Lib.hid hb; clear hb
        go_wp2_with (go_at_call 51; refine (plain_of13 _ true HB.out _).mono ?_; rintro e w1 ⟨rfl, rfl⟩)
        go_round
        case rel => exact ⟨j + 1, by go_num, by omega, HF⟩
        case measure => simp [intOf]; omega
    · have HF := Lib.hid (show (j : Int) = E by rw [← hE.out, endW_end (show s.data.toList.length ≤ j by show s.size ≤ j; omega)])
      have hlt2 : ¬ (j : Int) < (s.size : Int) := by omega
      go_wp2
      go_ret
      exact ⟨r1 (vi HF.out), rfl⟩
def quotedRV (s : ByteArray) (w : World) : Option (List UInt8 × List UInt8) → Ending → World → Prop
  | none, e, w' => e = .returned (.tuple #[.string ⟨#[]⟩, .int .i64 (-1)]) ∧ w = w'
  | some (v, r), e, w' => ∃ j : Nat, e = .returned (.tuple #[.string ⟨v.toArray⟩, .int .i64 j]) ∧ j ≤ s.size ∧ Hid (s.data.toList.drop j = r) ∧ w = w'
set_option maxHeartbeats 2000000 in
set_option maxRecDepth 100000 in
theorem quoted_ref (s : ByteArray) (k : Nat) (w : World) (hs : s.size ≤ 1000000) (hk : k ≤ s.size) (Q : Option (List UInt8 × List UInt8)) (hQ : quoteD s.data.toList k = Q) : Calls Tryd.prog 40 #[.string s, .int .i64 k] w (quotedRV s w Q) := by
  have HQ := Lib.hid hQ; clear hQ
  go_enter Tryd.func40, Tryd.ntmps40
  go_wp2
  go_loopw [1, 6, 7] (fun i o _ wr => ∃ (k : Nat) (O : ByteArray), i = .int .i64 k ∧ o = .string O ∧ k ≤ s.size ∧ O.size ≤ k ∧ wr = w ∧ Hid (Q = (quoteD s.data.toList k).map fun p => (O.data.toList ++ p.1, p.2)))
    (fun i _ _ _ => s.size - (intOf i).toNat)
  case atStart => exact ⟨k, ⟨#[]⟩, rfl, rfl, hk, Nat.zero_le _, rfl, Lib.hid (by rw [HQ.out]; simp)⟩
  case round =>
    clear hk HQ
    obtain ⟨k, O, rfl, rfl, hk, hO, rfl, hq⟩ := hrel
    by_cases hlt : k < s.size
    · have hki : (k : Int) < (s.size : Int) := by omega
      have hq2 := hq.out
      rw [quoteD_cons _ k hlt] at hq2
      have hgs : s.data.toList[k] = s[k] := rfl
      simp only [hgs] at hq2
      by_cases h34 : s[k] = 34
      · rw [if_pos h34] at hq2
        have hx := b34 _ h34
        have HF := Lib.hid hq2
        clear hq2 h34
        go_wp2
        go_ret2
        rw [HF.out]
        refine ⟨k + 1, ?_, hlt, Lib.hid rfl, rfl⟩
        rw [List.append_nil, mk_list]
        go_num
      · have hx := b34n _ h34
        rw [if_neg h34] at hq2
        by_cases hbad : s[k] < 32 ∨ 126 < s[k]
        · rw [if_pos hbad] at hq2
          have HF := Lib.hid hq2
          clear hq2 h34
          rcases hbad with h | h
          · have hy := b32 _ h
            clear h
            go_wp2
            go_ret2
            rw [HF.out]
            exact ⟨rfl, rfl⟩
          · have hy := b126 _ h
            have hz : ¬ (s[k].toNat : Int) < 32 := by omega
            clear h
            go_wp2
            go_ret2
            rw [HF.out]
            exact ⟨rfl, rfl⟩
        · rw [if_neg hbad] at hq2
          have hy := b32n _ (fun h => hbad (.inl h))
          have hz := b126n _ (fun h => hbad (.inr h))
          by_cases h92 : s[k] = 92
          · rw [if_pos h92] at hq2
            have hu := b92 _ h92
            have hw1 : IntKind.i64.wrap ((k : Int) + 1) = (k : Int) + 1 := IntWalk.i64_in _ (by omega)
            by_cases hk1 : k + 1 < s.size
            · rw [List.getElem?_eq_getElem (show k + 1 < s.data.toList.length from hk1)] at hq2
              have hgs1 : s.data.toList[k + 1] = s[k + 1] := rfl
              simp only [hgs1] at hq2
              have hki1 : (k : Int) + 1 < (s.size : Int) := by omega
              have hkn1 : ((k : Int) + 1 == (s.size : Int)) = false := by rw [beq_eq_false_iff_ne]; omega
              by_cases hd : s[k + 1] = 34 ∨ s[k + 1] = 92
              · rw [if_pos hd] at hq2
                have HF := Lib.hid (show Q = (quoteD s.data.toList (k + 2)).map fun p => ((O ++ s.extract (k + 1) (k + 1 + 1)).data.toList ++ p.1, p.2) by rw [hq2, app_data, one_byte s (k + 1) hk1]; simp [Function.comp_def])
                have hO2 : (O ++ s.extract (k + 1) (k + 1 + 1)).size ≤ k + 2 := by rw [ByteArray.size_append, ByteArray.size_extract]; omega
                clear hq2 h34 hbad h92 hq
                rcases hd with h | h
                · have hv := b34o _ h
                  clear h
                  go_wp2
                  go_roundw
                  case rel => exact ⟨k + 2, O ++ s.extract (k + 1) (k + 1 + 1), by go_num, rfl, by omega, hO2, trivial, HF⟩
                  case measure => simp [intOf]; omega
                · have hv := b92o _ h
                  have hv2 : ((s[k + 1].toNat : Int) != 34) = true := by rw [h]; rfl
                  clear h
                  go_wp2
                  go_roundw
                  case rel => exact ⟨k + 2, O ++ s.extract (k + 1) (k + 1 + 1), by go_num, rfl, by omega, hO2, trivial, HF⟩
                  case measure => simp [intOf]; omega
              · rw [if_neg hd] at hq2
                have HF := Lib.hid hq2
                have hv := b34m _ (fun h => hd (.inl h))
                have hv2 := b92m _ (fun h => hd (.inr h))
                clear hq2 h34 hbad h92 hd
                go_wp2
                go_ret2
                rw [HF.out]
                exact ⟨rfl, rfl⟩
            · rw [List.getElem?_eq_none (show s.data.toList.length ≤ k + 1 by show s.size ≤ _; omega)] at hq2
              have HF := Lib.hid hq2
              have hkn1 : ((k : Int) + 1 == (s.size : Int)) = true := by rw [beq_iff_eq]; omega
              clear hq2 h34 hbad h92
              go_wp2
              go_ret2
              rw [HF.out]
              exact ⟨rfl, rfl⟩
          · rw [if_neg h92] at hq2
            have hu := b92n _ h92
            have HF := Lib.hid (show Q = (quoteD s.data.toList (k + 1)).map fun p => ((O ++ s.extract k (k + 1)).data.toList ++ p.1, p.2) by rw [hq2, app_data, one_byte s k hlt]; simp [Function.comp_def])
            have hO2 : (O ++ s.extract k (k + 1)).size ≤ k + 1 := by rw [ByteArray.size_append, ByteArray.size_extract]; omega
            clear hq2 h34 hbad h92 hq
            go_wp2
            go_roundw
            case rel => exact ⟨k + 1, O ++ s.extract k (k + 1), by go_num, rfl, by omega, hO2, trivial, HF⟩
            case measure => simp [intOf]; omega
    · have hki : ¬ (k : Int) < (s.size : Int) := by omega
      have HF := Lib.hid (show Q = none by rw [hq.out, quoteD_end _ _ (show s.data.toList.length ≤ k by show s.size ≤ _; omega)]; rfl)
      go_wp2
      go_ret2
      rw [HF.out]
      exact ⟨rfl, rfl⟩
end Go.Proofs.YtdfflbpifpoogaaDoor
