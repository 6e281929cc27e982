/- The walks of the statements of layer 8: Free and Write agree with the reference, Read is the inverse of Write; One and Read agree on every text; what is written holds no delimiter. -/
import Derived.Test.YtbkhgmehfgfmfaaPcw
import Derived.ProofKit
import Derived.OpenShut
import Derived.ChangeOld
import Derived.ShutString
set_option linter.unusedVariables false
set_option synthInstance.maxSize 4000
namespace Nun
theorem hex_pair : ∀ c : UInt8, hex2 (hexd (c / 16)) (hexd (c % 16)) = some c := by decide +kernel
theorem readL_writeL (s : List UInt8) : readL (writeL s) = some s := by
  induction s with
  | nil => rfl
  | cons c t ih =>
    have e : writeL (c :: t) = (if free c then [c] else 37 :: pair c) ++ writeL t := by simp [writeL]
    rw [e]
    have hf : free 37 = false := by decide
    split
    · rename_i h
      show readL (c :: writeL t) = _
      conv => lhs; unfold readL
      rw [if_pos h, ih]; rfl
    · simp [readL, pair, hf, hex_pair, ih]
theorem one_shift (a l : List UInt8) (i : Nat) : one (a ++ l) ((a.length + i : Nat) : Int) = one l i := by
  unfold one hexAt
  have e1 : (((a.length + i : Nat) : Int)).toNat = a.length + i := by omega
  have e2 : (((a.length + i : Nat) : Int) + 1).toNat = a.length + (i + 1) := by omega
  have e3 : ((i : Int)).toNat = i := by omega
  have e4 : ((i : Int) + 1).toNat = i + 1 := by omega
  have g : ∀ k, (a ++ l)[a.length + k]? = l[k]? := fun k => by rw [List.getElem?_append_right (by omega)]; congr 1; omega
  rw [if_neg (by omega), if_neg (by omega), if_neg (by omega), if_neg (by omega), e1, e2, e3, e4, g, g, show a.length + (i + 1) + 1 = a.length + (i + 1 + 1) by omega, g]
theorem free_hexd : ∀ c : UInt8, free (hexd (c / 16)) = true ∧ free (hexd (c % 16)) = true := by decide +kernel
/-- What stands at a place of what is written: a free byte, or the sign before two digits. -/
def safeAt (x : List UInt8) (i : Nat) : Prop := ∃ c, x[i]? = some c ∧ (free c = true ∨ (c = 37 ∧ ∃ d, one x i = some (d, 3)))
theorem safe_shift {a l : List UInt8} {i : Nat} (h : safeAt l i) : safeAt (a ++ l) (a.length + i) := by
  obtain ⟨c, h1, h2⟩ := h
  refine ⟨c, by rw [List.getElem?_append_right (by omega), ← h1]; congr 1; omega, ?_⟩
  rw [one_shift]; exact h2
theorem writeL_safe (s : List UInt8) : ∀ i, i < (writeL s).length → safeAt (writeL s) i := by
  induction s with
  | nil => intro i h; simp [writeL] at h
  | cons c t ih =>
    have e : writeL (c :: t) = (if free c then [c] else 37 :: pair c) ++ writeL t := by simp [writeL]
    rw [e]
    intro i h
    rw [List.length_append] at h
    by_cases hi : (if free c then [c] else 37 :: pair c).length ≤ i
    · obtain ⟨k, rfl⟩ := Nat.exists_eq_add_of_le hi
      exact safe_shift (ih k (by omega))
    · split at hi
      · rename_i hf
        simp at hi; subst hi
        exact ⟨c, by rw [if_pos hf]; rfl, .inl hf⟩
      · rename_i hf
        rw [if_neg hf]
        have hx := free_hexd c
        match i, hi with
        | 0, _ => exact ⟨37, rfl, .inr ⟨rfl, c, by simp [one, pair, show free 37 = false by decide, hexAt, hex_pair]⟩⟩
        | 1, _ => exact ⟨_, rfl, .inl hx.1⟩
        | 2, _ => exact ⟨_, rfl, .inl hx.2⟩
        | n + 3, hi => simp [pair] at hi
end Nun
namespace Go.Proofs.Ytbkhgmehfgfmfaa
open Go.RowKit Nun
theorem few08 (s : ByteArray) (w : World) (hs : s.size ≤ maxLen) : Calls Try.prog 9 #[.string s] w fun e w' => ∃ t : ByteArray, e = .returned (.string t) ∧ t.size ≤ 300 ∧ w = w' := by
  unfold maxLen at hs
  go_enter Try.func9, Try.ntmps9
  go_wp2
  go_ret
  exact ⟨_, rfl, by simp [ByteArray.size_extract]; omega, rfl⟩
theorem readp_of (s : ByteArray) (o : Option (List UInt8)) (h : readL s.data.toList = o) (w : World) (hs : s.size ≤ 1000000000) : Calls Try.prog 11 #[.string s] w (Ret (readV o) w) := h ▸ read_pct s w hs
theorem readr_of (s : ByteArray) (o : Option (List UInt8)) (h : readL s.data.toList = o) (w : World) (hs : s.size ≤ 1000000000) : Calls Try.prog 16 #[.string s] w (Ret (readV o) w) := h ▸ read_ref s w hs
theorem readA (w : World) : Calls Try.prog 11 #[.string ⟨#[37, 50, 102]⟩] w (Ret (.tuple #[.string ⟨#[47]⟩, .int .i64 0]) w) := by
  have h := read_pct ⟨#[37, 50, 102]⟩ w (by decide)
  rw [show readL (⟨#[37, 50, 102]⟩ : ByteArray).data.toList = some [47] by decide +kernel] at h; exact h
theorem readB (w : World) : Calls Try.prog 11 #[.string ⟨#[97, 43, 98]⟩] w (Ret (.tuple #[.string ⟨#[]⟩, .int .i64 7]) w) := by
  have h := read_pct ⟨#[97, 43, 98]⟩ w (by decide)
  rw [show readL (⟨#[97, 43, 98]⟩ : ByteArray).data.toList = none by decide +kernel] at h; exact h
theorem writeA (w : World) : Calls Try.prog 10 #[.string ⟨#[97, 32, 98, 47]⟩] w (Ret (.string ⟨#[97, 37, 50, 48, 98, 37, 50, 70]⟩) w) := by
  have h := write_pct ⟨#[97, 32, 98, 47]⟩ w (by decide)
  rw [show writeL (⟨#[97, 32, 98, 47]⟩ : ByteArray).data.toList = [97, 37, 50, 48, 98, 37, 50, 70] by decide +kernel] at h; exact h
theorem freeA (w : World) : Calls Try.prog 13 #[.int .u8 126] w (Same (.bool true) w) := free_of 126 true (by decide) w
theorem freeB (w : World) : Calls Try.prog 13 #[.int .u8 43] w (Same (.bool false) w) := free_of 43 false (by decide) w
set_option maxHeartbeats 1000000 in
theorem awake08 (w : World) : Calls Try.prog 15 #[] w (Ret (.bool true) w) := by
  go_enter Try.func15, Try.ntmps15
  go_wp2_with (first | (go_at_call 11; (first | (with_reducible refine (readA _).mono ?_) | (with_reducible refine (readB _).mono ?_)); rintro e w1 ⟨rfl, hb1⟩) | (go_at_call 10; (with_reducible refine (writeA _).mono ?_); rintro e w1 ⟨rfl, hb1⟩) | (go_at_call 13; (first | (with_reducible refine (freeA _).mono ?_) | (with_reducible refine (freeB _).mono ?_)); rintro e w1 ⟨rfl, rfl⟩))
  go_ret
  exact ⟨rfl, (by repeat (first | assumption | exact Below.refl _ _ | refine below_of ?_ (by assumption)))⟩
set_option maxHeartbeats 1000000 in
theorem walk_percentWrites (s : ByteArray) (c : Int) (w : World) (hs : s.size ≤ maxLen) (hc : (Lit.int .u8 c).wf = true) : Calls Try.prog 3 #[.string s, .int .u8 c] w (Ret (.bool true) w) := by
  obtain ⟨c, rfl⟩ := u8_of hc
  clear hc
  have hs' := Lib.hid hs; clear hs
  go_enter Try.func3, Try.ntmps3
  go_wp2_with (first | (go_at_call 9; refine (few08 _ _ hs'.out).mono ?_; rintro e w1 ⟨t, rfl, ht, rfl⟩; have hl := writeL_len t.data.toList; have hl2 : t.data.toList.length = t.size := rfl; have hl' : (writeL t.data.toList).length ≤ 900 := (by omega); clear hl hl2) | (go_at_call 10; refine (write_pct _ _ (by omega)).mono ?_; rintro e w1 ⟨rfl, hb1⟩) | (go_at_call 11; refine (readp_of _ (some t.data.toList) (readL_writeL _) _ (by rw [mk_size]; omega)).mono ?_; rintro e w2 ⟨rfl, hb2⟩) | (go_at_call 12; refine (write_ref _ _ (by omega)).mono ?_; rintro e w3 ⟨rfl, hb3⟩) | (go_at_call 13; refine (free_pct _ _).mono ?_; rintro e w4 ⟨rfl, rfl⟩) | (go_at_call 14; refine (free_ref _ _).mono ?_; rintro e w4 ⟨rfl, rfl⟩) | (go_at_call 15; refine (awake08 _).mono ?_; rintro e w5 ⟨rfl, hb5⟩))
  go_ret
  exact ⟨rfl, (by repeat (first | assumption | exact Below.refl _ _ | refine below_of ?_ (by assumption)))⟩
set_option maxHeartbeats 1000000 in
theorem walk_percentReads (s : ByteArray) (n : Int) (w : World) (hs : s.size ≤ maxLen) (hn : (Lit.int .i64 n).wf = true) : Calls Try.prog 4 #[.string s, .int .i64 n] w (Ret (.bool true) w) := by
  clear hn
  have hs' := Lib.hid hs; clear hs
  go_enter Try.func4, Try.ntmps4
  go_wp2_with (go_at_call 9; refine (few08 _ _ hs'.out).mono ?_; rintro e w1 ⟨t, rfl, ht, rfl⟩)
  rcases hr : readL t.data.toList with _ | l
  all_goals (have HR := Lib.hid hr; clear hr)
  all_goals (rcases ho : one t.data.toList n with _ | ⟨c, k⟩ <;> (have HO := Lib.hid ho; clear ho))
  all_goals
    go_wp2_with (first | (go_at_call 11; refine (readp_of _ _ HR.out _ (by omega)).mono ?_; rintro e w2 ⟨rfl, hb2⟩) | (go_at_call 16; refine (readr_of _ _ HR.out _ (by omega)).mono ?_; rintro e w3 ⟨rfl, hb3⟩) | (go_at_call 17; refine (onep_of _ _ _ HO.out _ (by omega)).mono ?_; rintro e w4 ⟨rfl, rfl⟩) | (go_at_call 18; refine (oner_of _ _ _ HO.out _ (by omega)).mono ?_; rintro e w4 ⟨rfl, hb4⟩) | (go_at_call 15; refine (awake08 _).mono ?_; rintro e w5 ⟨rfl, hb5⟩))
    go_ret
    exact ⟨rfl, (by repeat (first | assumption | exact Below.refl _ _ | refine below_of ?_ (by assumption)))⟩
set_option maxHeartbeats 1000000 in
theorem walk_percentSafe (s : ByteArray) (w : World) (hs : s.size ≤ maxLen) : Calls Try.prog 5 #[.string s] w (Ret (.bool true) w) := by
  have hs' := Lib.hid hs; clear hs
  go_enter Try.func5, Try.ntmps5
  go_wp2_with (first | (go_at_call 9; refine (few08 _ _ hs'.out).mono ?_; rintro e w1 ⟨t, rfl, ht, rfl⟩) | (go_at_call 10; refine (write_pct _ _ (by omega)).mono ?_; rintro e w1 ⟨rfl, hb1⟩))
  generalize hx : writeL t.data.toList = x
  have hsafe := Lib.hid (hx ▸ writeL_safe t.data.toList)
  have hl := writeL_len t.data.toList
  rw [hx] at hl
  have hl' : x.length ≤ 900 := by have : t.data.toList.length = t.size := rfl; omega
  clear hl hx
  go_loopw [4, 5, 6, 7] (fun i _ _ _ wr => ∃ k : Nat, k ≤ x.length ∧ i = .int .i64 k ∧ Below w.heap.size w wr) (fun i _ _ _ _ => x.length - (intOf i).toNat)
  case atStart => exact ⟨0, Nat.zero_le _, rfl, (by repeat (first | assumption | exact Below.refl _ _ | refine below_of ?_ (by assumption)))⟩
  case round =>
    obtain ⟨k, hk, rfl, hbel⟩ := hrel
    by_cases hlt : k < x.length
    · obtain ⟨c, hc, hc2⟩ := hsafe.out k hlt
      have hc' : (⟨x.toArray⟩ : ByteArray)[k]'hlt = c := by rw [List.getElem?_eq_getElem hlt] at hc; exact Option.some.inj hc
      rcases hc2 with hf | ⟨rfl, d, ho⟩
      · have hne : ¬ c = 37 := by rintro rfl; exact absurd hf (by decide)
        have ho : one (⟨x.toArray⟩ : ByteArray).data.toList k = some (c, 1) := by
          show one x k = _
          unfold one
          rw [if_neg (by omega), show (((k : Int)).toNat) = k from rfl, hc]; simp [hf]
        have HB := Lib.hid (show free ((⟨x.toArray⟩ : ByteArray)[k]'hlt) = true by rw [hc']; exact hf)
        have HO := Lib.hid ho; clear ho
        have q1 : (((⟨x.toArray⟩ : ByteArray)[k]'hlt).toNat == (37 : Int)) = false := by rw [hc']; simp [← UInt8.toNat_inj] at hne ⊢; omega
        have q2 : (((⟨x.toArray⟩ : ByteArray)[k]'hlt).toNat != (37 : Int)) = true := by rw [hc']; simp [← UInt8.toNat_inj] at hne ⊢; omega
        clear hc' hc hne
        go_wp2_with (first | (go_at_call 14; refine (freeR_of _ _ HB.out _).mono ?_; rintro e w4 ⟨rfl, rfl⟩) | (go_at_call 17; refine (onep_of _ _ _ HO.out _ (by rw [mk_size]; omega)).mono ?_; rintro e w4 ⟨rfl, rfl⟩))
        go_roundw
        case rel => exact ⟨k + 1, by omega, by go_num, hbel⟩
        case measure => simp [intOf]; omega
      · have HB := Lib.hid (show free ((⟨x.toArray⟩ : ByteArray)[k]'hlt) = false by rw [hc']; decide)
        have HO := Lib.hid (show one (⟨x.toArray⟩ : ByteArray).data.toList k = some (d, 3) from ho); clear ho
        have q1 : (((⟨x.toArray⟩ : ByteArray)[k]'hlt).toNat == (37 : Int)) = true := by rw [hc']; rfl
        have q2 : (((⟨x.toArray⟩ : ByteArray)[k]'hlt).toNat != (37 : Int)) = false := by rw [hc']; rfl
        clear hc' hc
        go_wp2_with (first | (go_at_call 14; refine (freeR_of _ _ HB.out _).mono ?_; rintro e w4 ⟨rfl, rfl⟩) | (go_at_call 17; refine (onep_of _ _ _ HO.out _ (by rw [mk_size]; omega)).mono ?_; rintro e w4 ⟨rfl, rfl⟩))
        go_roundw
        case rel => exact ⟨k + 1, by omega, by go_num, hbel⟩
        case measure => simp [intOf]; omega
    · obtain rfl : k = x.length := by omega
      go_wp2_with (go_at_call 15; refine (awake08 _).mono ?_; rintro e w5 ⟨rfl, hb5⟩)
      go_ret
      exact ⟨rfl, hbel.trans (hb5.mono hbel.size)⟩
open Go.ChangeShapes Go.WideShapes Go.ChangeAt
open Go.ChangeMaps (open_string shut_string)
namespace percentWritesDone
theorem own : ownKnob Try.prog.godebug = none := by kernel_rfl
set_option maxRecDepth 100000 in
theorem lifted (os : Os) (started : os.Started) (H : Type) (enc : TypeId × Value → H) :
    ReturnsInHanded {} Try.checked os 3 .any (Rows.percentWritesSpec.pre6 enc Try.prog Try.f3 Rows.percentWritesRow.domain false) (Rows.percentWritesSpec.post enc Try.prog Try.f3 false true false false) := by
  refine returnsInHanded_of_change (C := Try.checked) own started (by kernel_rfl) Try.func3
    (ChangeSpec.witness6 (enc := enc) (C := Try.checked) false ⟨#[], #[.string ⟨#[]⟩, .int .u8 0], []⟩ 8 (by kernel_rfl) (by kernel_rfl) (by kernel_rfl) (by kernel_rfl)) ?_
  intro W base args ds gs before hval0 hW hcnd _
  have hval : ∀ (j : Nat) t v, Try.f3.params[j]? = some t → args[j]? = some v → Value.okWide Try.prog W .any base t v := hval0
  have hW' := hW
  obtain ⟨p, q, hA0, hV, rfl, hfz, hnd⟩ := hW
  have hA : DataW.TrodAll enc Try.prog W 0 (fun _ => true) true Try.f3.params.toList args.toList ds p := hA0
  rw [Try.params3] at hA hval
  obtain ⟨v0, vs0, d0, ds0, p0, q0, hargs, rfl, rfl, h0, r0⟩ := trodAll_cons hA
  obtain ⟨v1, vs1, d1, ds1, p1, q1, rfl, rfl, rfl, h1, r1⟩ := trodAll_cons r0
  obtain ⟨rfl, rfl, rfl⟩ := trodAll_nil r1
  obtain rfl : args = #[v0, v1] := by cases args; simp_all
  obtain ⟨rfl, rfl⟩ := trodVars_none hV
  obtain ⟨s, rfl, rfl, rfl, w0⟩ := open_string Try.underlying9 (hval 0 9 v0 rfl rfl) h0
  obtain ⟨c, rfl, rfl, rfl, w1⟩ := open_int Try.underlying5 (hval 1 5 v1 rfl rfl) h1
  clear hA0 hval0
  refine (walk_percentWrites s c W w0 w1).mono fun e W' ⟨he, bel⟩ => ?_
  subst he
  exact ⟨_, rfl, _, _, _, [], _, [], hW', trodAll_mk1 (shut_bool Try.underlying4 _), (trodAll_cons_mk (shut_string Try.underlying9 w0) (trodAll_cons_mk (shut_int Try.underlying5 w1) trodAll_mk0)), rfl, bel.frame _, fun h => by cases h⟩
theorem over : Rows.percentWritesRow.holds Try.pinned (OpenSpec.ofChange Rows.percentWritesSpec) :=
  OpenClaim.holds_of_wide 3 Try.f3 rfl rfl rfl rfl rfl rfl rfl ⟨rfl, rfl, rfl, rfl, rfl⟩ rfl rfl rfl rfl rfl (by kernel_rfl) Try.func3 (by kernel_rfl)
    (of_decide_eq_true (by kernel_rfl)) (by unfold Func.isWrapper; first | (rw [if_pos (by decide +kernel)]; kernel_rfl) | (rw [if_neg (by decide +kernel)]; exact ⟨rfl, rfl⟩))
    (fun os started H enc _ => lifted os started H enc)
theorem proved : Rows.PercentWritesSaid := over
end percentWritesDone
namespace percentReadsDone
theorem own : ownKnob Try.prog.godebug = none := by kernel_rfl
set_option maxRecDepth 100000 in
theorem lifted (os : Os) (started : os.Started) (H : Type) (enc : TypeId × Value → H) :
    ReturnsInHanded {} Try.checked os 4 .any (Rows.percentReadsSpec.pre6 enc Try.prog Try.f4 Rows.percentReadsRow.domain false) (Rows.percentReadsSpec.post enc Try.prog Try.f4 false true false false) := by
  refine returnsInHanded_of_change (C := Try.checked) own started (by kernel_rfl) Try.func4
    (ChangeSpec.witness6 (enc := enc) (C := Try.checked) false ⟨#[], #[.string ⟨#[]⟩, .int .i64 0], []⟩ 8 (by kernel_rfl) (by kernel_rfl) (by kernel_rfl) (by kernel_rfl)) ?_
  intro W base args ds gs before hval0 hW hcnd _
  have hval : ∀ (j : Nat) t v, Try.f4.params[j]? = some t → args[j]? = some v → Value.okWide Try.prog W .any base t v := hval0
  have hW' := hW
  obtain ⟨p, q, hA0, hV, rfl, hfz, hnd⟩ := hW
  have hA : DataW.TrodAll enc Try.prog W 0 (fun _ => true) true Try.f4.params.toList args.toList ds p := hA0
  rw [Try.params4] at hA hval
  obtain ⟨v0, vs0, d0, ds0, p0, q0, hargs, rfl, rfl, h0, r0⟩ := trodAll_cons hA
  obtain ⟨v1, vs1, d1, ds1, p1, q1, rfl, rfl, rfl, h1, r1⟩ := trodAll_cons r0
  obtain ⟨rfl, rfl, rfl⟩ := trodAll_nil r1
  obtain rfl : args = #[v0, v1] := by cases args; simp_all
  obtain ⟨rfl, rfl⟩ := trodVars_none hV
  obtain ⟨s, rfl, rfl, rfl, w0⟩ := open_string Try.underlying9 (hval 0 9 v0 rfl rfl) h0
  obtain ⟨n, rfl, rfl, rfl, w1⟩ := open_int Try.underlying3 (hval 1 3 v1 rfl rfl) h1
  clear hA0 hval0
  refine (walk_percentReads s n W w0 w1).mono fun e W' ⟨he, bel⟩ => ?_
  subst he
  exact ⟨_, rfl, _, _, _, [], _, [], hW', trodAll_mk1 (shut_bool Try.underlying4 _), (trodAll_cons_mk (shut_string Try.underlying9 w0) (trodAll_cons_mk (shut_int Try.underlying3 w1) trodAll_mk0)), rfl, bel.frame _, fun h => by cases h⟩
theorem over : Rows.percentReadsRow.holds Try.pinned (OpenSpec.ofChange Rows.percentReadsSpec) :=
  OpenClaim.holds_of_wide 4 Try.f4 rfl rfl rfl rfl rfl rfl rfl ⟨rfl, rfl, rfl, rfl, rfl⟩ rfl rfl rfl rfl rfl (by kernel_rfl) Try.func4 (by kernel_rfl)
    (of_decide_eq_true (by kernel_rfl)) (by unfold Func.isWrapper; first | (rw [if_pos (by decide +kernel)]; kernel_rfl) | (rw [if_neg (by decide +kernel)]; exact ⟨rfl, rfl⟩))
    (fun os started H enc _ => lifted os started H enc)
theorem proved : Rows.PercentReadsSaid := over
end percentReadsDone
namespace percentSafeDone
theorem own : ownKnob Try.prog.godebug = none := by kernel_rfl
set_option maxRecDepth 100000 in
theorem lifted (os : Os) (started : os.Started) (H : Type) (enc : TypeId × Value → H) :
    ReturnsInHanded {} Try.checked os 5 .any (Rows.percentSafeSpec.pre6 enc Try.prog Try.f5 Rows.percentSafeRow.domain false) (Rows.percentSafeSpec.post enc Try.prog Try.f5 false true false false) := by
  refine returnsInHanded_of_change (C := Try.checked) own started (by kernel_rfl) Try.func5
    (ChangeSpec.witness6 (enc := enc) (C := Try.checked) false ⟨#[], #[.string ⟨#[]⟩], []⟩ 8 (by kernel_rfl) (by kernel_rfl) (by kernel_rfl) (by kernel_rfl)) ?_
  intro W base args ds gs before hval0 hW hcnd _
  have hval : ∀ (j : Nat) t v, Try.f5.params[j]? = some t → args[j]? = some v → Value.okWide Try.prog W .any base t v := hval0
  have hW' := hW
  obtain ⟨p, q, hA0, hV, rfl, hfz, hnd⟩ := hW
  have hA : DataW.TrodAll enc Try.prog W 0 (fun _ => true) true Try.f5.params.toList args.toList ds p := hA0
  rw [Try.params5] at hA hval
  obtain ⟨v0, vs0, d0, ds0, p0, q0, hargs, rfl, rfl, h0, r0⟩ := trodAll_cons hA
  obtain ⟨rfl, rfl, rfl⟩ := trodAll_nil r0
  obtain rfl : args = #[v0] := by cases args; simp_all
  obtain ⟨rfl, rfl⟩ := trodVars_none hV
  obtain ⟨s, rfl, rfl, rfl, w0⟩ := open_string Try.underlying9 (hval 0 9 v0 rfl rfl) h0
  clear hA0 hval0
  refine (walk_percentSafe s W w0).mono fun e W' ⟨he, bel⟩ => ?_
  subst he
  exact ⟨_, rfl, _, _, _, [], _, [], hW', trodAll_mk1 (shut_bool Try.underlying4 _), (trodAll_cons_mk (shut_string Try.underlying9 w0) trodAll_mk0), rfl, bel.frame _, fun h => by cases h⟩
theorem over : Rows.percentSafeRow.holds Try.pinned (OpenSpec.ofChange Rows.percentSafeSpec) :=
  OpenClaim.holds_of_wide 5 Try.f5 rfl rfl rfl rfl rfl rfl rfl ⟨rfl, rfl, rfl, rfl, rfl⟩ rfl rfl rfl rfl rfl (by kernel_rfl) Try.func5 (by kernel_rfl)
    (of_decide_eq_true (by kernel_rfl)) (by unfold Func.isWrapper; first | (rw [if_pos (by decide +kernel)]; kernel_rfl) | (rw [if_neg (by decide +kernel)]; exact ⟨rfl, rfl⟩))
    (fun os started H enc _ => lifted os started H enc)
theorem proved : Rows.PercentSafeSaid := over
end percentSafeDone
end Go.Proofs.Ytbkhgmehfgfmfaa
