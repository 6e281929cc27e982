/- b64.Mail, Unmail. -/
import Derived.Test.YtbkhgmehfgfmfaaDoorBdf
set_option linter.unusedVariables false
set_option synthInstance.maxSize 4000
namespace Nun
def soft (c : UInt8) : Bool := c == 9 || c == 10 || c == 13 || c == 32
def bare (l : List UInt8) : List UInt8 := l.filter fun c => !soft c
theorem bare_snoc (l : List UInt8) (c : UInt8) : bare (l ++ [c]) = bare l ++ if soft c then [] else [c] := by
  unfold bare; rw [List.filter_append]; cases h : soft c <;> simp [h]
theorem bare_len (l : List UInt8) : (bare l).length ≤ l.length := List.length_filter_le _ _
theorem quad_len (l : List UInt8) : (quad l).length = 4 := rfl
theorem enc64_len (n : Nat) : ∀ l : List UInt8, l.length ≤ n → (enc64 l).length ≤ 4 * l.length := by
  induction n with
  | zero => intro l h
            have : l = [] := List.eq_nil_of_length_eq_zero (by omega)
            subst this; simp [enc64]
  | succ n ih =>
    intro l h
    match l, h with
    | [], _ => simp [enc64]
    | [a], _ => simp [enc64, quad_len]
    | [a, b], _ => simp [enc64, quad_len]
    | a :: b :: c :: l, h => rw [enc64, List.length_append, quad_len]; have := ih l (by simp at h; omega); simp; omega
end Nun
namespace Go.Proofs.YtbkhgmehfgfmfaaDoor
open Go.RowKit Nun
set_option maxHeartbeats 1000000 in
theorem mail64 (s : ByteArray) (w : World) (hT : Tab w) (hs : s.size ≤ 100000) : Calls Tryd.prog 17 #[.string s] w (Ret (.string ⟨(wrapI 76 (enc64 s.data.toList)).toArray⟩) w) := by
  have hlen : (ByteArray.mk (enc64 s.data.toList).toArray).size ≤ 4 * s.size := enc64_len _ _ (Nat.le_refl _)
  go_enter Tryd.func17, Tryd.ntmps17
  go_wp2_with (first | (go_at_call 8; refine (encode64 _ _ hT (by omega)).mono ?_; rintro e w1 ⟨rfl, hb1⟩) | (go_at_call 13; refine (wrap64 _ _ _ (by omega)).mono ?_; rintro e w2 ⟨rfl, hb2⟩))
  go_ret
  exact ⟨rfl, below_of hb1 hb2⟩
theorem dec_of (t : ByteArray) (l : List UInt8) (V : Option (List UInt8)) (ht : t.data.toList = l) (hV : dec64 l = V) (w : World) (hs : t.size ≤ 1000000) : Calls Tryd.prog 9 #[.string t] w (Ret (dec64V V) w) := by
  subst ht; subst hV; exact decode64 t w hs
/-- A byte's tests, as the walk meets them. -/
theorem softs (c : UInt8) : (soft c = true ∧ (((c.toNat : Int) == 9) = true ∧ ((c.toNat : Int) != 9) = false ∨ ((c.toNat : Int) == 9) = false ∧ ((c.toNat : Int) != 9) = true ∧ (((c.toNat : Int) == 10) = true ∧ ((c.toNat : Int) != 10) = false ∨ ((c.toNat : Int) == 10) = false ∧ ((c.toNat : Int) != 10) = true ∧ (((c.toNat : Int) == 13) = true ∧ ((c.toNat : Int) != 13) = false ∨ ((c.toNat : Int) == 13) = false ∧ ((c.toNat : Int) != 13) = true ∧ ((c.toNat : Int) == 32) = true ∧ ((c.toNat : Int) != 32) = false)))) ∨ (soft c = false ∧ ((c.toNat : Int) == 9) = false ∧ ((c.toNat : Int) != 9) = true ∧ ((c.toNat : Int) == 10) = false ∧ ((c.toNat : Int) != 10) = true ∧ ((c.toNat : Int) == 13) = false ∧ ((c.toNat : Int) != 13) = true ∧ ((c.toNat : Int) == 32) = false ∧ ((c.toNat : Int) != 32) = true) := by
  revert c; decide +kernel
set_option maxHeartbeats 2000000 in
theorem unmail64 (s : ByteArray) (w : World) (hs : s.size ≤ 1000000) : Calls Tryd.prog 18 #[.string s] w (Ret (dec64V (dec64 (bare s.data.toList))) w) := by
  have hlen : s.data.toList.length = s.size := rfl
  have HL := Lib.hid hlen; clear hlen
  generalize hV : dec64 (bare s.data.toList) = V
  have HV := Lib.hid hV; clear hV
  obtain ⟨i0, hi, hz0, hz1, hz2⟩ := info_parts infoByte
  obtain ⟨wm, hr, hown, hg⟩ := run_make_own w w.heap.size 32 5 i0 (.int .u8 0) 1 Tryd.underlying32 hi hz0 hz1 .i64 .i64 s.size (by rw [hz2]; omega) (by unfold maxLen; omega) (Nat.le_refl _)
  have hbm : Below w.heap.size w wm := (Below.refl _ w).grown hg (Nat.le_refl _) (fun k hk => by cases hk)
  have hown : OwnB w.heap.size 5 (.slice (some ⟨w.heap.size, 0, none⟩) 0 s.size) [] wm := hown
  clear hi hz0 hz1 hz2 hg
  go_enter Tryd.func18, Tryd.ntmps18
  go_wp2
  clear hr
  go_loopw [4, 5, 11] (fun v _ i wr => ∃ (k : Nat) (acc : List UInt8), k ≤ s.size ∧ i = .int .i64 k ∧ acc.length ≤ k ∧ OwnB w.heap.size 5 v acc wr ∧ Below w.heap.size w wr ∧ Hid (acc = bare (s.data.toList.take k)))
    (fun _ _ i _ => s.size - (intOf i).toNat)
  case atStart => exact ⟨0, [], Nat.zero_le _, rfl, by simp, hown, hbm, Lib.hid rfl⟩
  case round =>
    clear hown hbm
    obtain ⟨k, acc, hk, rfl, hak, hown, hbel, hacc⟩ := hrel
    by_cases hlt : k < s.size
    · have hst : bare (s.data.toList.take (k + 1)) = acc ++ if soft s[k] then [] else [s[k]] := by
        rw [take_snoc _ _ (by rw [HL.out]; exact hlt), bare_snoc, hacc.out]; rfl
      rcases softs s[k] with ⟨h0, h1⟩ | ⟨h0, q1, p1, q2, p2, q3, p3, q4, p4⟩
      · rw [h0, if_pos rfl, List.append_nil] at hst
        have hst' := Lib.hid hst; clear hst h0
        rcases h1 with ⟨q1, p1⟩ | ⟨q1, p1, ⟨q2, p2⟩ | ⟨q2, p2, ⟨q3, p3⟩ | ⟨q3, p3, q4, p4⟩⟩⟩
        all_goals
          go_wp2
          go_roundw
          case rel => exact ⟨k + 1, acc, by omega, by go_num, by omega, hown, hbel, Lib.hid hst'.out.symm⟩
          case measure => simp [intOf]; omega
      · rw [h0, if_neg (by simp)] at hst
        have hst' := Lib.hid hst; clear hst h0
        go_wp2_with (at_builtin; refine pushb (by rfl) _ _ _ (by rfl) 5 Tryd.underlying32 infoByte w.heap.size wr _ _ (by rfl) hown (s[k]) (by rfl) (by omega) hbel.size ?_; intro g cap w1 hg hown1 hgr hb1 hsz1)
        go_roundw
        case rel => exact ⟨k + 1, acc ++ [s[k]], by omega, by go_num, by simp; omega, hown1, hbel.trans hb1, Lib.hid hst'.out.symm⟩
        case measure => simp [intOf]; omega
    · obtain rfl : k = s.size := by omega
      have hfin : acc = bare s.data.toList := by rw [hacc.out, List.take_of_length_le (by rw [HL.out]; exact Nat.le_refl _)]
      have HF := Lib.hid hfin; clear hfin
      have kc := conv_own (P := Tryd.prog) Tryd.underlying32 Tryd.underlying5 Tryd.underlying9 hown
      have hsz : (ByteArray.mk acc.toArray).size ≤ 1000000 := by show acc.length ≤ _; omega
      rcases V with _ | l
      all_goals
        go_wp2_with (go_at_call 9; refine (dec_of _ _ _ HF.out HV.out _ hsz).mono ?_; rintro e w1 ⟨rfl, hb1⟩; simp only [dec64V_none, dec64V_some])
        go_ret2
        exact ⟨rfl, hbel.trans (hb1.mono hbel.size)⟩
set_option maxHeartbeats 2000000 in
theorem unmail_ref (hD : ∀ (s : ByteArray) (w : World), s.size ≤ 100000 → Calls Tryd.prog 10 #[.string s] w (Ret (dec64V (dec64 s.data.toList)) w)) (s : ByteArray) (w : World) (hs : s.size ≤ 100000) : Calls Tryd.prog 19 #[.string s] w (Ret (dec64V (dec64 (bare s.data.toList))) w) := by
  have hlen : s.data.toList.length = s.size := rfl
  have HL := Lib.hid hlen; clear hlen
  have hD' : ∀ (t : ByteArray) (l : List UInt8) (V : Option (List UInt8)) (ht : t.data.toList = l) (hV : dec64 l = V) (w : World) (hs : t.size ≤ 100000), Calls Tryd.prog 10 #[.string t] w (Ret (dec64V V) w) := by
    intro t l V ht hV w hs; subst ht; subst hV; exact hD t w hs
  have HD := Lib.hid hD'; clear hD hD'
  generalize hV : dec64 (bare s.data.toList) = V
  have HV := Lib.hid hV; clear hV
  go_enter Tryd.func19, Tryd.ntmps19
  go_wp2
  go_loopw [4, 5] (fun v i wr => ∃ (k : Nat) (acc : List UInt8), k ≤ s.size ∧ i = .int .i64 k ∧ acc.length ≤ k ∧ OwnB w.heap.size 5 v acc wr ∧ Below w.heap.size w wr ∧ Hid (acc = bare (s.data.toList.take k)))
    (fun _ i _ => s.size - (intOf i).toNat)
  case atStart => exact ⟨0, [], Nat.zero_le _, rfl, by simp, OwnB.made w (Nat.le_refl _) _ _ rfl (by decide), (Below.refl _ _).alloc (Nat.le_refl _) _, Lib.hid rfl⟩
  case round =>
    obtain ⟨k, acc, hk, rfl, hak, hown, hbel, hacc⟩ := hrel
    by_cases hlt : k < s.size
    · have hst : bare (s.data.toList.take (k + 1)) = acc ++ if soft s[k] then [] else [s[k]] := by
        rw [take_snoc _ _ (by rw [HL.out]; exact hlt), bare_snoc, hacc.out]; rfl
      rcases softs s[k] with ⟨h0, h1⟩ | ⟨h0, q1, p1, q2, p2, q3, p3, q4, p4⟩
      · rw [h0, if_pos rfl, List.append_nil] at hst
        have hst' := Lib.hid hst; clear hst h0
        rcases h1 with ⟨q1, p1⟩ | ⟨q1, p1, ⟨q2, p2⟩ | ⟨q2, p2, ⟨q3, p3⟩ | ⟨q3, p3, q4, p4⟩⟩⟩
        all_goals
          go_wp2
          go_roundw
          case rel => exact ⟨k + 1, acc, by omega, by go_num, by omega, hown, hbel, Lib.hid hst'.out.symm⟩
          case measure => simp [intOf]; omega
      · rw [h0, if_neg (by simp)] at hst
        have hst' := Lib.hid hst; clear hst h0
        go_wp2_with (at_builtin; refine pushb (by rfl) _ _ _ (by rfl) 5 Tryd.underlying32 infoByte w.heap.size wr _ _ (by rfl) hown (s[k]) (by rfl) (by omega) hbel.size ?_; intro g cap w1 hg hown1 hgr hb1 hsz1)
        go_roundw
        case rel => exact ⟨k + 1, acc ++ [s[k]], by omega, by go_num, by simp; omega, hown1, hbel.trans hb1, Lib.hid hst'.out.symm⟩
        case measure => simp [intOf]; omega
    · obtain rfl : k = s.size := by omega
      have hfin : acc = bare s.data.toList := by rw [hacc.out, List.take_of_length_le (by rw [HL.out]; exact Nat.le_refl _)]
      have HF := Lib.hid hfin; clear hfin
      have kc := conv_own (P := Tryd.prog) Tryd.underlying32 Tryd.underlying5 Tryd.underlying9 hown
      have hsz : (ByteArray.mk acc.toArray).size ≤ 100000 := by show acc.length ≤ _; omega
      rcases V with _ | l
      all_goals
        go_wp2_with (go_at_call 10; refine (HD.out _ _ _ HF.out HV.out _ hsz).mono ?_; rintro e w1 ⟨rfl, hb1⟩; simp only [dec64V_none, dec64V_some])
        go_ret2
        exact ⟨rfl, hbel.trans (hb1.mono hbel.size)⟩
end Go.Proofs.YtbkhgmehfgfmfaaDoor
