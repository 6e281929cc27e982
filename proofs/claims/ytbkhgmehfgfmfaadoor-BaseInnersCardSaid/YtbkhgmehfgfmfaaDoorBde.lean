/- b64.four, b64.Decode. -/
import Derived.Test.YtbkhgmehfgfmfaaDoorBen
set_option linter.unusedVariables false
set_option synthInstance.maxSize 4000
namespace Nun
/-- How many digits of these four count. -/
def fourK (l : List UInt8) (last : Bool) : Nat := if last = true ∧ l[3]? = some 61 then (if l[2]? = some 61 then 2 else 3) else 4
def fourN (l : List UInt8) (k : Nat) : Nat → Option Nat
  | 0 => some 0
  | i + 1 => match fourN l k i with
    | none => none
    | some n => if k ≤ i then some (n * 64) else match val64 (l[i]?.getD 0) with
      | none => none
      | some x => some (n * 64 + x)
def fourV (l : List UInt8) (last : Bool) : List UInt8 × Bool := match fourN l (fourK l last) 4 with
  | none => ([], false)
  | some n => ([UInt8.ofNat (n / 65536), UInt8.ofNat (n / 256), UInt8.ofNat n].take (fourK l last - 1), n % 256 ^ (4 - fourK l last) == 0)
theorem val64_lt (c : UInt8) : ∀ x, val64 c = some x → x < 64 := by
  have : ∀ c : UInt8, (val64 c).getD 0 < 64 := by decide +kernel
  intro x h; have := this c; rw [h] at this; exact this
theorem fourN_lt (l : List UInt8) (k i : Nat) : ∀ n, fourN l k i = some n → n < 64 ^ i := by
  induction i with
  | zero => intro n h; simp [fourN] at h; subst h; simp
  | succ i ih =>
    intro n h
    rw [fourN] at h
    split at h
    · cases h
    · rename_i m hm
      have := ih m hm
      rw [Nat.pow_succ]
      split at h
      · simp at h; omega
      · split at h
        · cases h
        · rename_i x hx
          have := val64_lt _ _ hx
          simp at h; omega
theorem fourN_lt3 (l : List UInt8) (k i n : Nat) (hi : i < 4) (h : fourN l k i = some n) : n < 262144 := Nat.lt_of_lt_of_le (fourN_lt l k i n h) (Nat.pow_le_pow_right (n := 64) (by decide) (Nat.le_of_lt_succ hi))
theorem fourN_lt4 (l : List UInt8) (k n : Nat) (h : fourN l k 4 = some n) : n < 16777216 := fourN_lt l k 4 n h
theorem fourN_none {l : List UInt8} {k i : Nat} (h : fourN l k i = none) (j : Nat) (hj : i ≤ j) : fourN l k j = none := by
  induction j with
  | zero => obtain rfl : i = 0 := by omega
            exact h
  | succ j ih =>
    by_cases e : i = j + 1
    · exact e ▸ h
    · rw [fourN, ih (by omega)]
theorem four_or (n x : Nat) (h : n < 262144) (hx : x < 64) : Go.bits .or .u32 ((n : Int) * 64) x = ((n * 64 + x : Nat) : Int) := by
  have e : (n : Int) * 64 = ((n * 64 : Nat) : Int) := by omega
  rw [e, Go.u32_or_nat _ _ (by omega) (by omega), Go.nat_join 6 _ _ (by omega) (by omega)]
theorem fourK_cases (l : List UInt8) (last : Bool) : fourK l last = 2 ∨ fourK l last = 3 ∨ fourK l last = 4 := by unfold fourK; split <;> (try split) <;> simp
end Nun
namespace Go.Proofs.YtbkhgmehfgfmfaaDoor
open Go.RowKit Nun
theorem u8_nat (n : Nat) : (UInt8.ofNat n).toNat = n % 256 := by simp
theorem conv_three {P : Program} {src dst e : TypeId} (hs : P.underlying src = some (.slice e)) (he : P.underlying e = some (.int .u8)) (hd : P.underlying dst = some .string) (w : World) (x y z : UInt8) :
    (convert src dst (.slice (some ⟨w.heap.size, 0, none⟩) 3 3)).run P (w.alloc (.cells #[.int .u8 x.toNat, .int .u8 y.toNat, .int .u8 z.toNat] e)) = .ok (.string ⟨#[x, y, z]⟩) (w.alloc (.cells #[.int .u8 x.toNat, .int .u8 y.toNat, .int .u8 z.toNat] e)) :=
  run_convert_bytes_back _ src dst e ⟨w.heap.size, 0, none⟩ 3 [x, y, z] hs he hd (by
    intro j hj
    match j, hj with
    | 0, hj => simp [Addr.add]
    | 1, hj => simp [Addr.add]
    | 2, hj => simp [Addr.add])
theorem worth_of64 (c : UInt8) (o : Option Nat) (h : val64 c = o) (w : World) : Calls Tryd.prog 30 #[.int .u8 c.toNat] w (Same (.tuple #[.int .u32 (o.getD 0), .bool o.isSome]) w) := h ▸ worth64 c w
set_option maxHeartbeats 1000000 in
theorem four_any (s : ByteArray) (last : Bool) (w : World) (hs : s.size = 4) : Calls Tryd.prog 23 #[.string s, .bool last] w (Ret (.tuple #[.string ⟨(fourV s.data.toList last).1.toArray⟩, .bool (fourV s.data.toList last).2]) w) := by
  have hlen : s.data.toList.length = s.size := rfl
  have HL := Lib.hid hlen; clear hlen
  have i2 : s.data.toList[2]? = some (s[2]'(by omega)) := List.getElem?_eq_getElem (l := s.data.toList) (by show 2 < s.size; omega)
  have i3 : s.data.toList[3]? = some (s[3]'(by omega)) := List.getElem?_eq_getElem (l := s.data.toList) (by show 3 < s.size; omega)
  obtain ⟨K, hK, hKK, hcase⟩ : ∃ K, fourK s.data.toList last = K ∧ 2 ≤ K ∧ (last = false ∧ K = 4 ∨ last = true ∧ K = 4 ∧ (((s[3]'(by omega)).toNat : Int) == 61) = false ∨ last = true ∧ K = 3 ∧ (((s[3]'(by omega)).toNat : Int) == 61) = true ∧ (((s[2]'(by omega)).toNat : Int) == 61) = false ∨ last = true ∧ K = 2 ∧ (((s[3]'(by omega)).toNat : Int) == 61) = true ∧ (((s[2]'(by omega)).toNat : Int) == 61) = true) := by
    refine ⟨_, rfl, by rcases fourK_cases s.data.toList last with h | h | h <;> omega, ?_⟩
    unfold fourK
    rw [i2, i3]
    cases last
    · exact .inl ⟨rfl, rfl⟩
    · by_cases h3 : s[3]'(by omega) = 61
      · by_cases h2 : s[2]'(by omega) = 61
        · exact .inr (.inr (.inr ⟨rfl, by rw [h3, h2]; rfl, by rw [h3]; rfl, by rw [h2]; rfl⟩))
        · exact .inr (.inr (.inl ⟨rfl, by rw [h3]; simp [h2], by rw [h3]; rfl, by simp [← UInt8.toNat_inj] at h2 ⊢; omega⟩))
      · exact .inr (.inl ⟨rfl, by simp [h3], by simp [← UInt8.toNat_inj] at h3 ⊢; omega⟩)
  clear i2 i3
  have hV : fourV s.data.toList last = match fourN s.data.toList K 4 with
      | none => ([], false)
      | some n => ([UInt8.ofNat (n / 65536), UInt8.ofNat (n / 256), UInt8.ofNat n].take (K - 1), n % 256 ^ (4 - K) == 0) := by unfold fourV; rw [hK]
  generalize fourV s.data.toList last = V at hV ⊢
  have HV := Lib.hid hV; clear hV hK
  rcases hcase with ⟨rfl, hKv⟩ | ⟨rfl, hKv, f3⟩ | ⟨rfl, hKv, f3, f2⟩ | ⟨rfl, hKv, f3, f2⟩
  all_goals
    go_enter Tryd.func23, Tryd.ntmps23
    go_wp2
    go_loopw [6] (fun k wr => ∃ j : Nat, k = .int .i64 j ∧ K ≤ j ∧ j ≤ 4 ∧ wr = w) (fun k _ => (intOf k).toNat)
    case atStart => exact ⟨4, rfl, by omega, by omega, rfl⟩
    case round =>
      obtain ⟨j, rfl, hj1, hj2, rfl⟩ := hrel
      by_cases hjK : j = K
      · have HK := Lib.hid hKv
        rw [hKv] at hjK; subst hjK; clear hKv
        go_wp2
        try rw [show ((4 : Nat) : Int) = 4 from rfl]
        try rw [show ((3 : Nat) : Int) = 3 from rfl]
        try rw [show ((2 : Nat) : Int) = 2 from rfl]
        go_loopw [7, 26] (fun n iv wr1 => ∃ (i m : Nat), i ≤ 4 ∧ iv = .int .i64 i ∧ n = .int .u32 m ∧ wr1 = wr ∧ Hid (fourN s.data.toList K i = some m)) (fun _ iv _ => 4 - (intOf iv).toNat)
        case atStart => exact ⟨0, 0, by omega, rfl, rfl, rfl, Lib.hid rfl⟩
        case round =>
          obtain ⟨i, m, hi, rfl, rfl, rfl, hm⟩ := hrel
          by_cases hi4 : i < 4
          · have hml := fourN_lt3 _ _ _ _ hi4 hm.out
            by_cases hik : K ≤ i
            · have hnx : fourN s.data.toList K (i + 1) = some (m * 64) := by rw [fourN, hm.out]; simp only [if_pos hik]
              have HN := Lib.hid hnx; clear hnx
              have hik' := hik
              rw [HK.out] at hik'
              clear hm
              first
                | (exfalso; omega)
                | (go_wp2
                   go_roundw
                   case rel => exact ⟨i + 1, m * 64, by omega, by go_num, by go_num, trivial, HN⟩
                   case measure => simp [intOf]; omega)
            · have hik' := Nat.lt_of_not_le hik
              rw [HK.out] at hik'
              have hi' : s.data.toList[i]?.getD 0 = s[i]'(by omega) := by
                rw [List.getElem?_eq_getElem (l := s.data.toList) (by show i < s.size; omega)]; rfl
              rcases hv : val64 (s[i]'(by omega)) with _ | x
              · have hnx : fourN s.data.toList K (i + 1) = none := by rw [fourN, hm.out]; simp only [if_neg hik, hi', hv]
                have hVn : V = ([], false) := by rw [HV.out, fourN_none hnx 4 (by omega)]
                have HN := Lib.hid hVn; have Hv := Lib.hid hv; clear hnx hVn hv hi' hm
                go_wp2_with (go_at_call 30; refine (worth_of64 _ _ Hv.out _).mono ?_; rintro e w' ⟨rfl, rfl⟩)
                go_ret2
                rw [HN.out]
                exact ⟨rfl, Below.refl _ _⟩
              · have hnx : fourN s.data.toList K (i + 1) = some (m * 64 + x) := by rw [fourN, hm.out]; simp only [if_neg hik, hi', hv]
                have hx := val64_lt _ _ hv
                have hor := four_or m x hml hx
                have HN := Lib.hid hnx; have Hv := Lib.hid hv; clear hnx hv hi' hm
                go_wp2_with (go_at_call 30; refine (worth_of64 _ _ Hv.out _).mono ?_; rintro e w' ⟨rfl, rfl⟩)
                go_roundw
                case rel => exact ⟨i + 1, m * 64 + x, by omega, by go_num, by go_num, trivial, HN⟩
                case measure => simp [intOf]; omega
          · obtain rfl : i = 4 := by omega
            have hml := fourN_lt4 _ _ _ hm.out
            rw [hm.out] at HV
            simp only [] at HV
            have n1 := u8_nat (m / 65536)
            have n2 := u8_nat (m / 256)
            have n3 := u8_nat m
            have kc := conv_three (P := Tryd.prog) Tryd.underlying32 Tryd.underlying5 Tryd.underlying9 wr (UInt8.ofNat (m / 65536)) (UInt8.ofNat (m / 256)) (UInt8.ofNat m)
            rw [n1, n2, n3, show (((m / 65536 % 256 : Nat)) : Int) = (m : Int) / 65536 by omega, show (((m / 256 % 256 : Nat)) : Int) = (m : Int) / 256 % 256 by omega, show (((m % 256 : Nat)) : Int) = (m : Int) % 256 by omega] at kc
            clear n1 n2 n3
            have m0 : bits .and .u32 (m : Int) 0 = 0 := by rw [show (0 : Int) = ((0 : Nat) : Int) from rfl, u32_and_nat m 0 (by omega) (by decide), Nat.and_zero]
            have m1 : bits .and .u32 (m : Int) 255 = ((m % 256 : Nat) : Int) := by rw [show (255 : Int) = ((255 : Nat) : Int) from rfl, u32_and_nat m 255 (by omega) (by decide), Nat.and_two_pow_sub_one_eq_mod m 8]
            have m2 : bits .and .u32 (m : Int) 65535 = ((m % 65536 : Nat) : Int) := by rw [show (65535 : Int) = ((65535 : Nat) : Int) from rfl, u32_and_nat m 65535 (by omega) (by decide), Nat.and_two_pow_sub_one_eq_mod m 16]
            have hsz : (ByteArray.mk #[UInt8.ofNat (m / 65536), UInt8.ofNat (m / 256), UInt8.ofNat m]).size = 3 := rfl
            go_wp2
            (refine wp_region_quiet_below (by kernel_rfl) (by kernel_rfl) ?_; (repeat (first | go_big_quiet_skip | (go_big_quiet_want; go_big_quiet_op; first | go_big_quiet_on | (apply Exists.intro; refine ⟨fun _ => ?_, ?_⟩; (· (fail)); go_big_quiet_on)))); refine wpQuiet_nil ?_; intro _ hw'; obtain ⟨⟨dq, osq⟩, hw''⟩ := hw'; subst hw'')
            go_wp2
            go_ret2
            rw [HV.out, HK.out]
            refine ⟨t2 (vS rfl) (vb ?_), ((Below.refl _ _).alloc (Nat.le_refl _) _).trans ((below_regrown _ _ _).mono (by simp))⟩
            first | rfl | (rw [Bool.eq_iff_iff]; simp; omega)
      · obtain rfl | rfl : j = 3 ∨ j = 4 := by omega
        all_goals first
          | (exfalso; omega)
          | (subst hKv
             go_wp2
             go_roundw
             case rel => first | exact ⟨2, by go_num, by omega, by omega, trivial⟩ | exact ⟨3, by go_num, by omega, by omega, trivial⟩
             case measure => simp [intOf])
end Go.Proofs.YtbkhgmehfgfmfaaDoor
