/- b64.Encode. -/
import Derived.Test.YtbkhgmehfgfmfaaDoorB64
set_option linter.unusedVariables false
set_option synthInstance.maxSize 4000
namespace Nun
/-- The number of the first bytes. -/
def num (l : List UInt8) : Nat → Nat
  | 0 => 0
  | i + 1 => num l i * 256 + ((l[i]?).getD 0).toNat
def quad (l : List UInt8) : List UInt8 := [dig (num l 3 / 262144 % 64), dig (num l 3 / 4096 % 64), if l.length < 2 then 61 else dig (num l 3 / 64 % 64), if l.length < 3 then 61 else dig (num l 3 % 64)]
def enc64 : List UInt8 → List UInt8
  | [] => []
  | [a] => quad [a]
  | [a, b] => quad [a, b]
  | a :: b :: c :: l => quad [a, b, c] ++ enc64 l
theorem num_lt (l : List UInt8) (i : Nat) : num l i < 256 ^ i := by
  induction i with
  | zero => simp [num]
  | succ i ih =>
    have := ((l[i]?).getD 0).toNat_lt
    simp only [num, Nat.pow_succ]
    omega
theorem num_lt3 (l : List UInt8) (i : Nat) (h : i ≤ 3) : num l i < 16777216 := Nat.lt_of_lt_of_le (num_lt l i) (Nat.pow_le_pow_right (n := 256) (by decide) h)
theorem num_lt2 (l : List UInt8) (i : Nat) (h : i < 3) : num l i < 65536 := Nat.lt_of_lt_of_le (num_lt l i) (Nat.pow_le_pow_right (n := 256) (by decide) (Nat.le_of_lt_succ h))
theorem num_or (l : List UInt8) (i : Nat) (h : i < 3) (c : UInt8) (hc : l[i]? = some c) : Go.bits .or .u32 ((num l i : Int) * 256) c.toNat = num l (i + 1) := by
  have h1 := num_lt2 l i h
  have h2 := c.toNat_lt
  have e : (num l i : Int) * 256 = ((num l i * 256 : Nat) : Int) := by omega
  rw [e, Go.u32_or_nat _ _ (by omega) (by omega), Go.nat_join 8 _ _ (by omega) (by omega), num, hc]; rfl
theorem num_out (l : List UInt8) (i : Nat) (hc : l[i]? = none) : (num l (i + 1) : Int) = num l i * 256 := by rw [num, hc]; simp
theorem enc64_step (l : List UInt8) (h : l ≠ []) : enc64 l = quad l ++ enc64 (l.drop 3) := by
  match l, h with
  | [a], _ => rfl
  | [a, b], _ => rfl
  | a :: b :: c :: l, _ =>
    show quad [a, b, c] ++ enc64 l = quad (a :: b :: c :: l) ++ enc64 l
    have : quad [a, b, c] = quad (a :: b :: c :: l) := by
      have e : ∀ i, i ≤ 3 → num [a, b, c] i = num (a :: b :: c :: l) i := fun i hi => by
        match i, hi with
        | 0, _ => rfl
        | 1, _ => rfl
        | 2, _ => rfl
        | 3, _ => rfl
      unfold quad
      rw [e 3 (Nat.le_refl _), if_neg (by simp), if_neg (by simp), if_neg (by simp), if_neg (by simp)]
    rw [this]
end Nun
namespace Go.Proofs.YtbkhgmehfgfmfaaDoor
open Go.RowKit Nun
theorem and63 (x : Nat) (h : x < 4294967296) : bits .and .u32 (x : Int) 63 = ((x % 64 : Nat) : Int) := by
  rw [show (63 : Int) = ((63 : Nat) : Int) from rfl, u32_and_nat x 63 h (by decide), Nat.and_two_pow_sub_one_eq_mod x 6]
theorem digit_at (m : Int) (n : Nat) (h : m = n) (hn : n < 64) (w : World) (hT : Tab w) : Calls Tryd.prog 21 #[.int .u32 m] w (Same (.int .u8 (dig n).toNat) w) := h ▸ digit_any n hn w hT
theorem take_snoc (s : List UInt8) (k : Nat) (h : k < s.length) : s.take (k + 1) = s.take k ++ [s[k]] := by
  rw [List.take_succ_eq_append_getElem h]
set_option maxHeartbeats 1000000 in
theorem encode64 (s : ByteArray) (w : World) (hT : Tab w) (hs : s.size ≤ 1000000) : Calls Tryd.prog 8 #[.string s] w (Ret (.string ⟨(enc64 s.data.toList).toArray⟩) w) := by
  have hlen : s.data.toList.length = s.size := rfl
  have HL := Lib.hid hlen; clear hlen
  go_enter Tryd.func8, Tryd.ntmps8
  go_wp2
  go_loopw [0] (fun b wr => ∃ (k : Nat) (t : ByteArray) (acc : List UInt8), k ≤ s.size ∧ b = .string t ∧ t.size + k = s.size ∧ Bd w.heap.size w.heap.size acc wr ∧ acc.length ≤ 4 * k ∧ Below w.heap.size w wr ∧ Hid (t.data.toList = s.data.toList.drop k) ∧ Hid (enc64 s.data.toList = acc ++ enc64 (s.data.toList.drop k)))
    (fun b _ => match b with | .string t => t.size | _ => 0)
  case atStart => exact ⟨0, s, [], Nat.zero_le _, rfl, rfl, Bd.fresh w, by simp, (Below.refl _ _).alloc (Nat.le_refl _) _, Lib.hid rfl, Lib.hid rfl⟩
  case round =>
    obtain ⟨k, t, acc, hk, rfl, ht, hbd, hak, hbel, htd, henc⟩ := hrel
    have hT' := hT.kept hbel
    by_cases hlt : 0 < t.size
    · go_wp2
      have hK : min 3 ((t.size : Nat) : Int) = ((min 3 t.size : Nat) : Int) := by omega
      have hK1 : 1 ≤ min 3 t.size := by omega
      have hK3 : min 3 t.size ≤ 3 := by omega
      have hKt : min 3 t.size ≤ t.size := by omega
      have hKe : Hid (min 3 t.size = min 3 t.data.toList.length) := Lib.hid rfl
      have hKs : min 3 t.size = 3 ∨ min 3 t.size = t.size := by omega
      rw [hK]; clear hK
      generalize min 3 t.size = K at *
      go_loopw [5, 14] (fun n i wr1 => ∃ j : Nat, j ≤ 3 ∧ i = .int .i64 j ∧ n = .int .u32 (num t.data.toList j) ∧ wr1 = wr) (fun _ i _ => 3 - (intOf i).toNat)
      case atStart => exact ⟨0, by omega, rfl, rfl, rfl⟩
      case round =>
        obtain ⟨j, hj, rfl, rfl, rfl⟩ := hrel
        by_cases hj3 : j < 3
        · have hb := num_lt2 t.data.toList j hj3
          by_cases hjk : j < K
          · have hbt := num_or t.data.toList j hj3 (t[j]'(by omega)) (List.getElem?_eq_getElem (l := t.data.toList) (by show j < t.size; omega))
            have HB := Lib.hid hbt; clear hbt
            have hc256 := (t[j]'(by omega)).toNat_lt
            go_wp2
            go_roundw
            case rel => exact ⟨j + 1, by omega, by go_num, vi (by first | exact HB.out | (rw [← HB.out]; congr 1; omega)), trivial⟩
            case measure => simp [intOf]; omega
          · have hbt := num_out t.data.toList j (List.getElem?_eq_none (by show t.size ≤ j; omega))
            have HB := Lib.hid hbt; clear hbt
            go_wp2
            go_roundw
            case rel => exact ⟨j + 1, by omega, by go_num, vi (by first | exact HB.out.symm | (rw [HB.out]; omega)), trivial⟩
            case measure => simp [intOf]; omega
        · obtain rfl : j = 3 := by omega
          obtain ⟨d0, d1, d2, d3, hq, e0, e1, e2, e3⟩ : ∃ d0 d1 d2 d3, quad t.data.toList = [d0, d1, d2, d3] ∧ d0 = dig (num t.data.toList 3 / 262144 % 64) ∧ d1 = dig (num t.data.toList 3 / 4096 % 64) ∧ d2 = (if K < 2 then 61 else dig (num t.data.toList 3 / 64 % 64)) ∧ d3 = (if K < 3 then 61 else dig (num t.data.toList 3 % 64)) := by
            refine ⟨_, _, _, _, rfl, rfl, rfl, ?_, ?_⟩
            · have := hKe.out; split <;> split <;> first | rfl | omega
            · have := hKe.out; split <;> split <;> first | rfl | omega
          have HQ := Lib.hid hq; clear hq
          generalize hN : num t.data.toList 3 = N at *
          have hN' : N < 16777216 := hN ▸ num_lt3 _ _ (Nat.le_refl _)
          clear hN
          have E0 := Lib.hid e0; have E1 := Lib.hid e1; have E2 := Lib.hid e2; have E3 := Lib.hid e3; clear e0 e1 e2 e3
          go_wp2
          rw [show ((3 : Nat) : Int) = 3 from rfl]
          go_loopw [29] (fun i wr1 => ∃ j : Nat, j ≤ 4 ∧ i = .int .i64 j ∧ Bd w.heap.size w.heap.size (acc ++ [d0, d1, d2, d3].take j) wr1 ∧ Below w.heap.size w wr1) (fun i _ => 4 - (intOf i).toNat)
          case atStart => exact ⟨0, by omega, rfl, by simpa using hbd, hbel⟩
          case round =>
            clear hbd hbel hT'
            obtain ⟨j, hj, rfl, hbd, hbel⟩ := hrel
            have hT' := hT.kept hbel
            by_cases hj4 : j < 4
            · have hlen : (acc ++ [d0, d1, d2, d3].take j).length + 1 ≤ 140737488355328 := by simp; omega
              obtain rfl | rfl | rfl | rfl : j = 0 ∨ j = 1 ∨ j = 2 ∨ j = 3 := by omega
              · have a1 : bits .and .u32 ((N : Int) / 262144) 63 = ((N / 262144 % 64 : Nat) : Int) := and63 (N / 262144) (by omega)
                obtain rfl := E0.out
                go_wp2_with (first | (go_at_call 21; refine (digit_at _ (N / 262144 % 64) (by omega) (by omega) _ hT').mono ?_; rintro e w' ⟨rfl, rfl⟩) | (go_at_call 20; refine (bd_byte _ _ _ _ _ hbd hlen).mono ?_; rintro e w2 ⟨rfl, hbd2, hb2, _⟩))
                go_roundw
                case rel => exact ⟨1, by omega, by go_num, by simpa using hbd2, hbel.trans hb2⟩
                case measure => simp [intOf]
              · have a1 : bits .and .u32 ((N : Int) / 4096) 63 = ((N / 4096 % 64 : Nat) : Int) := and63 (N / 4096) (by omega)
                obtain rfl := E1.out
                go_wp2_with (first | (go_at_call 21; refine (digit_at _ (N / 4096 % 64) (by omega) (by omega) _ hT').mono ?_; rintro e w' ⟨rfl, rfl⟩) | (go_at_call 20; refine (bd_byte _ _ _ _ _ hbd hlen).mono ?_; rintro e w2 ⟨rfl, hbd2, hb2, _⟩))
                go_roundw
                case rel => exact ⟨2, by omega, by go_num, by simpa using hbd2, hbel.trans hb2⟩
                case measure => simp [intOf]
              · have a1 : bits .and .u32 ((N : Int) / 64) 63 = ((N / 64 % 64 : Nat) : Int) := and63 (N / 64) (by omega)
                by_cases hK2 : K < 2
                · obtain rfl : d2 = 61 := by rw [E2.out, if_pos hK2]
                  go_wp2_with (first | (go_at_call 20; refine (bd_byte _ _ _ 61 _ hbd hlen).mono ?_; rintro e w2 ⟨rfl, hbd2, hb2, _⟩))
                  go_roundw
                  case rel => exact ⟨3, by omega, by go_num, by simpa using hbd2, hbel.trans hb2⟩
                  case measure => simp [intOf]
                · obtain rfl : d2 = dig (N / 64 % 64) := by rw [E2.out, if_neg hK2]
                  go_wp2_with (first | (go_at_call 21; refine (digit_at _ (N / 64 % 64) (by omega) (by omega) _ hT').mono ?_; rintro e w' ⟨rfl, rfl⟩) | (go_at_call 20; refine (bd_byte _ _ _ _ _ hbd hlen).mono ?_; rintro e w2 ⟨rfl, hbd2, hb2, _⟩))
                  go_roundw
                  case rel => exact ⟨3, by omega, by go_num, by simpa using hbd2, hbel.trans hb2⟩
                  case measure => simp [intOf]
              · have a1 : bits .and .u32 (N : Int) 63 = ((N % 64 : Nat) : Int) := and63 N (by omega)
                by_cases hK2 : K < 3
                · obtain rfl : d3 = 61 := by rw [E3.out, if_pos hK2]
                  go_wp2_with (first | (go_at_call 20; refine (bd_byte _ _ _ 61 _ hbd hlen).mono ?_; rintro e w2 ⟨rfl, hbd2, hb2, _⟩))
                  go_roundw
                  case rel => exact ⟨4, by omega, by go_num, by simpa using hbd2, hbel.trans hb2⟩
                  case measure => simp [intOf]
                · obtain rfl : d3 = dig (N % 64) := by rw [E3.out, if_neg hK2]
                  go_wp2_with (first | (go_at_call 21; refine (digit_at _ (N % 64) (by omega) (by omega) _ hT').mono ?_; rintro e w' ⟨rfl, rfl⟩) | (go_at_call 20; refine (bd_byte _ _ _ _ _ hbd hlen).mono ?_; rintro e w2 ⟨rfl, hbd2, hb2, _⟩))
                  go_roundw
                  case rel => exact ⟨4, by omega, by go_num, by simpa using hbd2, hbel.trans hb2⟩
                  case measure => simp [intOf]
            · obtain rfl : j = 4 := by omega
              go_wp2
              go_roundw
              case rel =>
                have hd : (t.extract K t.size).data.toList = s.data.toList.drop (k + K) := by
                  rw [Lib.extract_data, List.take_of_length_le (by rw [List.length_drop]; exact Nat.le_refl _), htd.out, List.drop_drop]
                refine ⟨k + K, _, _, by omega, rfl, ?_, hbd, by simp; omega, hbel, Lib.hid hd, Lib.hid ?_⟩
                · simp; omega
                · rw [henc.out, enc64_step _ (by intro h; have := congrArg List.length h; rw [List.length_drop, HL.out] at this; simp at this; omega), ← htd.out, HQ.out]
                  have hdr : List.drop 3 t.data.toList = s.data.toList.drop (k + K) := by
                    rcases hKs with h | h
                    · rw [h, htd.out, List.drop_drop]
                    · rw [List.drop_of_length_le (by show t.size ≤ 3; omega), List.drop_of_length_le (by rw [HL.out]; omega)]
                  rw [hdr]; simp
              case measure => simp; omega
    · have hk0 : k = s.size := by omega
      have hend : enc64 s.data.toList = acc := by
        rw [henc.out, List.drop_of_length_le (by rw [HL.out]; omega)]; simp [enc64]
      have HE := Lib.hid hend; clear hend
      go_wp2_with (go_at_call 22; refine (bd_text _ _ _ _ hbd).mono ?_; rintro e w2 ⟨rfl, hbd2, hb2, _⟩)
      go_ret
      rw [HE.out]
      exact ⟨rfl, hbel.trans hb2⟩
end Go.Proofs.YtbkhgmehfgfmfaaDoor
