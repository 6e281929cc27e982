/- Contracts of the small functions on bytes: two hexadecimal digits, free bytes. -/
import Derived.Test.YtbkhgmehfgfmfaaRows
import Derived.Test.YtbkhgmehfgfmfaaShelf
import Derived.Test.YtbkhgmehfgfmfaaKit
set_option linter.unusedVariables false
set_option synthInstance.maxSize 4000
set_option synthInstance.maxHeartbeats 400000
namespace Nun
def free (c : UInt8) : Bool := (97 ≤ c && c ≤ 122) || (65 ≤ c && c ≤ 90) || (48 ≤ c && c ≤ 57) || c == 45 || c == 46 || c == 95 || c == 126
def worth (c : UInt8) : Option UInt8 := if 48 ≤ c ∧ c ≤ 57 then some (c - 48) else if 97 ≤ c ∧ c ≤ 102 then some (c - 87) else if 65 ≤ c ∧ c ≤ 70 then some (c - 55) else none
def hexd (c : UInt8) : UInt8 := if c < 10 then 48 + c else 55 + c
def pair (c : UInt8) : List UInt8 := [hexd (c / 16), hexd (c % 16)]
def hex2 (a b : UInt8) : Option UInt8 := match worth a, worth b with | some x, some y => some (16 * x + y) | _, _ => none
/-- The byte whose two digits stand at a place. -/
def hexAt (s : List UInt8) (at_ : Int) : Option UInt8 :=
  if at_ < 0 then none else match s[at_.toNat]?, s[at_.toNat + 1]? with | some a, some b => hex2 a b | _, _ => none
theorem hexAt_out (s : ByteArray) (n : Int) (h : n < 0 ∨ (s.size : Int) - 2 < n) : hexAt s.data.toList n = none := by
  unfold hexAt
  split
  · rfl
  · rename_i h0
    have : s.data.toList[n.toNat + 1]? = none := by
      rw [List.getElem?_eq_none]; simp; show s.size ≤ _; omega
    rw [this]; split <;> simp_all
theorem hexAt_in (s : ByteArray) (n : Int) (h0 : 0 ≤ n) (h : n + 2 ≤ s.size) : hexAt s.data.toList n = hex2 (s[n.toNat]'(by omega)) (s[(n + 1).toNat]'(by omega)) := by
  have e : (n + 1).toNat = n.toNat + 1 := by omega
  have a : s.data.toList[n.toNat]? = some (s[n.toNat]'(by omega)) := by
    rw [List.getElem?_eq_getElem (by simp; show _ < s.size; omega)]; rfl
  have b : s.data.toList[n.toNat + 1]? = some (s[(n + 1).toNat]'(by omega)) := by
    rw [List.getElem?_eq_getElem (by simp; show _ < s.size; omega)]; simp only [e]; rfl
  unfold hexAt
  rw [if_neg (by omega), a, b]
theorem worth_lt {c x : UInt8} (h : worth c = some x) : x < 16 := by
  have : ∀ c : UInt8, (worth c).getD 0 < 16 := by decide +kernel
  have := this c; rw [h] at this; exact this
theorem or_nib : ∀ x : UInt8, x < 16 → ∀ y : UInt8, y < 16 → Go.bits .or .u8 (↑x.toNat * 16 % 256) ↑y.toNat = ↑(16 * x + y).toNat := by decide +kernel
end Nun
namespace Go.Proofs.Ytbkhgmehfgfmfaa
open Go.RowKit Nun
set_option maxHeartbeats 400000 in
theorem worth_any (c : UInt8) (w : World) : Calls Try.prog 42 #[.int .u8 c.toNat] w (Same (.tuple #[.int .u8 ((worth c).getD 0).toNat, .bool (worth c).isSome]) w) := by
  go_enter Try.func42, Try.ntmps42
  go_wp2
  all_goals (go_ret2; refine ⟨t2 (vi ?_) (vb ?_), rfl⟩)
  all_goals (go_light; revert c; decide +kernel)

set_option maxHeartbeats 400000 in
theorem free_ref (c : UInt8) (w : World) : Calls Try.prog 14 #[.int .u8 c.toNat] w (Same (.bool (free c)) w) := by
  go_enter Try.func14, Try.ntmps14
  go_wp2
  all_goals (go_ret; refine ⟨r1 (vb ?_), rfl⟩)
  all_goals (go_light; revert c; decide +kernel)

set_option maxHeartbeats 400000 in
theorem free_pct (c : UInt8) (w : World) : Calls Try.prog 13 #[.int .u8 c.toNat] w (Same (.bool (free c)) w) := by
  go_enter Try.func13, Try.ntmps13
  go_wp2_with (go_at_call 28; refine (Try.strings_IndexByte _ _ _).mono ?_; rintro e w' ⟨rfl, rfl⟩)
  all_goals (go_ret; refine ⟨r1 (vb ?_), rfl⟩)
  all_goals (go_light; revert c; decide +kernel)

set_option maxHeartbeats 400000 in
theorem digit_ref (c : UInt8) (w : World) : Calls Try.prog 43 #[.int .u8 c.toNat] w (Same (.int .i64 (((worth c).getD 16).toNat)) w) := by
  go_enter Try.func43, Try.ntmps43
  go_wp2
  all_goals (go_ret; refine ⟨r1 (vi ?_), rfl⟩)
  all_goals (go_light; revert c; decide +kernel)

set_option maxHeartbeats 400000 in
theorem pair_any (c : UInt8) (w : World) : Calls Try.prog 40 #[.int .u8 c.toNat] w (Ret (.string ⟨(pair c).toArray⟩) w) := by
  have hc : (c.toNat : Int) < 256 := by have := c.toNat_lt; omega
  have h1 : (0 : Int) ≤ c.toNat / 16 := by omega
  have h2 : (c.toNat : Int) / 16 < 16 := by omega
  have h3 : (0 : Int) ≤ c.toNat % 16 := by omega
  have h4 : (c.toNat : Int) % 16 < 16 := by omega
  have kc := fun (w : World) (x y : UInt8) => conv_two (P := Try.prog) Try.underlying34 Try.underlying5 Try.underlying9 w x y
  go_enter Try.func40, Try.ntmps40
  go_wp2
  go_region
  go_wp2
  go_ret
  refine ⟨r1 (vS ?_), ((Below.refl _ _).alloc (Nat.le_refl _) _).drew⟩
  clear kc
  (go_light; revert c; decide +kernel)

set_option maxHeartbeats 400000 in
theorem pair_ref (c : UInt8) (w : World) : Calls Try.prog 27 #[.int .u8 c.toNat] w (Ret (.string ⟨(pair c).toArray⟩) w) := by
  have hc : (c.toNat : Int) < 256 := by have := c.toNat_lt; omega
  go_enter Try.func27, Try.ntmps27
  go_wp2
  (refine wp_region_quiet_below (by kernel_rfl) (by kernel_rfl) ?_; (repeat (first | go_big_quiet_skip | (go_big_quiet_want; go_big_quiet_op; first | go_big_quiet_on | (apply Exists.intro; refine ⟨fun _ => ?_, ?_⟩; (· (fail)); go_big_quiet_on)))); refine wpQuiet_nil ?_; intro _ hw'; obtain ⟨⟨dq, osq⟩, hw''⟩ := hw'; subst hw'')
  go_wp2
  go_ret
  refine ⟨r1 (vS ?_), below_regrown _ _ _⟩
  (go_light; revert c; decide +kernel)

theorem worth_of (c : UInt8) (o : Option UInt8) (h : worth c = o) (w : World) : Calls Try.prog 42 #[.int .u8 c.toNat] w (Same (.tuple #[.int .u8 (o.getD 0).toNat, .bool o.isSome]) w) := h ▸ worth_any c w
theorem digit_of (c : UInt8) (o : Option UInt8) (h : worth c = o) (w : World) : Calls Try.prog 43 #[.int .u8 c.toNat] w (Same (.int .i64 (o.getD 16).toNat) w) := h ▸ digit_ref c w

set_option maxHeartbeats 400000 in
theorem byte_any (s : ByteArray) (n : Int) (w : World) (hs : s.size ≤ 1000000000) :
    Calls Try.prog 29 #[.string s, .int .i64 n] w (Same (.tuple #[.int .u8 ((hexAt s.data.toList n).getD 0).toNat, .bool (hexAt s.data.toList n).isSome]) w) := by
  by_cases hn : 0 ≤ n ∧ n + 2 ≤ s.size
  · obtain ⟨h1, h2⟩ := hn
    have h3 : ¬ (n < 0) := by omega
    have h4 : ¬ ((s.size : Int) - 2 < n) := by omega
    have h5 : (0 : Int) ≤ n + 1 := by omega
    have h6 : n + 1 < (s.size : Int) := by omega
    have h7 : n < (s.size : Int) := by omega
    rw [hexAt_in s n h1 h2]; unfold hex2
    generalize hx : worth s[n.toNat] = x; generalize hy : worth s[(n + 1).toNat] = y
    have HX := Lib.hid hx; have HY := Lib.hid hy; clear hx hy
    cases x <;> cases y
    all_goals
      go_enter Try.func29, Try.ntmps29
      go_wp2_with (go_at_call 42; refine (worth_of _ _ (by first | exact HX.out | exact HY.out) _).mono ?_; rintro e w' ⟨rfl, rfl⟩)
      go_ret2
    all_goals go_light
    all_goals first | exact ⟨rfl, rfl⟩ | refine ⟨t2 (vi ?_) rfl, rfl⟩
    rw [or_nib _ (worth_lt HX.out) _ (worth_lt HY.out)]; rfl
  · go_enter Try.func29, Try.ntmps29
    go_wp2
    all_goals (go_ret2; refine ⟨t2 (vi ?_) (vb ?_), rfl⟩ <;> rw [hexAt_out s n (by omega)] <;> rfl)

set_option maxHeartbeats 400000 in
theorem byte_ref (s : ByteArray) (n : Int) (w : World) (hs : s.size ≤ 1000000000) :
    Calls Try.prog 30 #[.string s, .int .i64 n] w (Ret (.tuple #[.int .u8 ((hexAt s.data.toList n).getD 0).toNat, .bool (hexAt s.data.toList n).isSome]) w) := by
  by_cases hn : 0 ≤ n ∧ n + 2 ≤ s.size
  · obtain ⟨h1, h2⟩ := hn
    have h3 : ¬ (n < 0) := by omega
    have h4 : ¬ ((s.size : Int) - 2 < n) := by omega
    have h5 : (0 : Int) ≤ n + 1 := by omega
    have h6 : n + 1 < (s.size : Int) := by omega
    have h7 : n < (s.size : Int) := by omega
    rw [hexAt_in s n h1 h2]; unfold hex2
    generalize hx : worth s[n.toNat] = x; generalize hy : worth s[(n + 1).toNat] = y
    have HX := Lib.hid hx; have HY := Lib.hid hy; clear hx hy
    have a1 : ∀ v, x = some v → (v.toNat : Int) ≤ 15 := fun v h => by have := worth_lt (HX.out.trans h); have := UInt8.lt_iff_toNat_lt.1 this; simp at this; omega
    have a2 : ∀ v, y = some v → (v.toNat : Int) ≤ 15 := fun v h => by have := worth_lt (HY.out.trans h); have := UInt8.lt_iff_toNat_lt.1 this; simp at this; omega
    rcases x with _ | x <;> rcases y with _ | y
    all_goals (try replace a1 := a1 _ rfl)
    all_goals (try replace a2 := a2 _ rfl)
    all_goals
      go_enter Try.func30, Try.ntmps30
      go_wp2
      (refine wp_region_quiet_below (by kernel_rfl) (by kernel_rfl) ?_; (repeat (first | go_big_quiet_skip | (go_big_quiet_want; go_big_quiet_op; first | go_big_quiet_on | (apply Exists.intro; refine ⟨fun _ => ?_, ?_⟩; (· (exact same_quiet (fun w => digit_of _ _ (by first | exact HX.out | exact HY.out) w))); go_big_quiet_on)))); refine wpQuiet_nil ?_; intro _ hw'; obtain ⟨⟨dq, osq⟩, hw''⟩ := hw'; subst hw'')
      go_wp2
    all_goals (go_ret2; go_light)
    all_goals first | exact ⟨rfl, below_regrown _ _ _⟩ | refine ⟨t2 (vi ?_) rfl, below_regrown _ _ _⟩
    simp [UInt8.toNat_add, UInt8.toNat_mul]; omega
  · go_enter Try.func30, Try.ntmps30
    go_wp2
    all_goals (go_ret2; refine ⟨t2 (vi ?_) (vb ?_), Below.refl _ _⟩ <;> rw [hexAt_out s n (by omega)] <;> rfl)
end Go.Proofs.Ytbkhgmehfgfmfaa
