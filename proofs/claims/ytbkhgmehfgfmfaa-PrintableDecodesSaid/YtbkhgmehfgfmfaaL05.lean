/- Layer 5, quoted-printable: Encode agrees with the reference and Decode is its inverse; Decode agrees on every text; the lines of what is written are short, end without a blank and hold allowed bytes only. -/
import Derived.Test.YtbkhgmehfgfmfaaQpk
import Derived.ProofKit
import Derived.OpenShut
import Derived.ChangeOld
import Derived.ShutString
set_option linter.unusedVariables false
set_option synthInstance.maxSize 4000
namespace Go.Proofs.Ytbkhgmehfgfmfaa
open Go.RowKit Nun
theorem nblank_some {c : UInt8} (h : nblank (some c) = true) : c ≠ 32 ∧ c ≠ 9 := by simpa [nblank] using h
theorem prevAt_pos {x : List UInt8} {k : Nat} (h : 0 < k) : prevAt x k = x[k - 1]? := by cases k with | zero => omega | succ k => rfl
theorem few05 (s : ByteArray) (w : World) (hs : s.size ≤ maxLen) : Calls Try.prog 19 #[.string s] w fun e w' => ∃ t : ByteArray, e = .returned (.string t) ∧ t.size ≤ 400 ∧ w = w' := by
  unfold maxLen at hs
  go_enter Try.func19, Try.ntmps19
  go_wp2
  go_ret
  exact ⟨_, rfl, by simp [ByteArray.size_extract]; omega, rfl⟩
theorem decq_of (s : ByteArray) (o : Option (List UInt8)) (h : decL s.data.toList = o) (w : World) (hs : s.size ≤ 100000000) : Calls Try.prog 21 #[.string s] w (Ret (decV o) w) := h ▸ decode_qp s w hs
theorem decr_of (s : ByteArray) (o : Option (List UInt8)) (h : decL s.data.toList = o) (w : World) (hs : s.size ≤ 100000000) : Calls Try.prog 24 #[.string s] w (Ret (decV o) w) := h ▸ decode_ref s w hs
theorem decA (w : World) : Calls Try.prog 21 #[.string ⟨#[97, 61, 51, 68, 98]⟩] w (Ret (.tuple #[.string ⟨#[97, 61, 98]⟩, .int .i64 0]) w) := decq_of ⟨#[97, 61, 51, 68, 98]⟩ (some [97, 61, 98]) (by decide +kernel) w (by decide)
theorem encA (w : World) : Calls Try.prog 20 #[.string ⟨#[97, 61, 98]⟩] w (Ret (.string ⟨#[97, 61, 51, 68, 98]⟩) w) := by
  have h := enc_qp ⟨#[97, 61, 98]⟩ w (by decide)
  rw [show encL 0 (⟨#[97, 61, 98]⟩ : ByteArray).data.toList = [97, 61, 51, 68, 98] by decide +kernel] at h; exact h
theorem encB (w : World) : Calls Try.prog 20 #[.string ⟨#[97, 32, 10]⟩] w (Ret (.string ⟨#[97, 61, 50, 48, 13, 10]⟩) w) := by
  have h := enc_qp ⟨#[97, 32, 10]⟩ w (by decide)
  rw [show encL 0 (⟨#[97, 32, 10]⟩ : ByteArray).data.toList = [97, 61, 50, 48, 13, 10] by decide +kernel] at h; exact h
theorem encC (w : World) : Calls Try.prog 20 #[.string ⟨#[195, 169]⟩] w (Ret (.string ⟨#[61, 67, 51, 61, 65, 57]⟩) w) := by
  have h := enc_qp ⟨#[195, 169]⟩ w (by decide)
  rw [show encL 0 (⟨#[195, 169]⟩ : ByteArray).data.toList = [61, 67, 51, 61, 65, 57] by decide +kernel] at h; exact h
set_option maxHeartbeats 1000000 in
theorem awake05 (w : World) : Calls Try.prog 23 #[] w (Ret (.bool true) w) := by
  go_enter Try.func23, Try.ntmps23
  go_wp2_with (first | (go_at_call 21; (with_reducible refine (decA _).mono ?_); rintro e w1 ⟨rfl, hb1⟩) | (go_at_call 20; (first | (with_reducible refine (encA _).mono ?_) | (with_reducible refine (encB _).mono ?_) | (with_reducible refine (encC _).mono ?_)); rintro e w1 ⟨rfl, hb1⟩))
  go_ret
  exact ⟨rfl, (by repeat (first | assumption | exact Below.refl _ _ | refine below_of ?_ (by assumption)))⟩
theorem encL_len (s : List UInt8) : (encL 0 s).length ≤ 6 * s.length := by
  have h : ∀ k, k ≤ s.length → (estL ((List.range k).map (pcAt s))).1 ≤ 75 ∧ (estL ((List.range k).map (pcAt s))).2.length ≤ 6 * k := by
    intro k
    induction k with
    | zero => intro _; simp [estL]
    | succ k ih =>
      intro hk
      rw [List.range_succ, List.map_append, List.map_singleton, estL_snoc]
      refine est_bd ?_ (ih (by omega))
      unfold pcAt
      split
      · simp
      · split
        · simp
        · exact (piece_len _ _).2
  have := (h s.length (Nat.le_refl _)).2
  rwa [estL_all] at this
set_option maxHeartbeats 1000000 in
theorem walk_printableEncodes (s : ByteArray) (w : World) (hs : s.size ≤ maxLen) : Calls Try.prog 6 #[.string s] w (Ret (.bool true) w) := by
  have hs' := Lib.hid hs; clear hs
  go_enter Try.func6, Try.ntmps6
  go_wp2_with (first | (go_at_call 19; refine (few05 _ _ hs'.out).mono ?_; rintro e w1 ⟨t, rfl, ht, rfl⟩; have hl := encL_len t.data.toList; have hl2 : t.data.toList.length = t.size := rfl; have hl' : (encL 0 t.data.toList).length ≤ 2400 := (by omega); clear hl hl2) | (go_at_call 20; refine (enc_qp _ _ (by omega)).mono ?_; rintro e w1 ⟨rfl, hb1⟩) | (go_at_call 21; refine (decq_of _ (some t.data.toList) (decL_encL _ _) _ (by rw [mk_size]; omega)).mono ?_; rintro e w2 ⟨rfl, hb2⟩) | (go_at_call 22; refine (enc_ref _ _ (by omega)).mono ?_; rintro e w3 ⟨rfl, hb3⟩) | (go_at_call 23; refine (awake05 _).mono ?_; rintro e w5 ⟨rfl, hb5⟩))
  go_ret
  exact ⟨rfl, (by repeat (first | assumption | exact Below.refl _ _ | refine below_of ?_ (by assumption)))⟩
set_option maxHeartbeats 1000000 in
theorem walk_printableDecodes (s : ByteArray) (w : World) (hs : s.size ≤ maxLen) : Calls Try.prog 7 #[.string s] w (Ret (.bool true) w) := by
  have hs' := Lib.hid hs; clear hs
  go_enter Try.func7, Try.ntmps7
  go_wp2_with (go_at_call 19; refine (few05 _ _ hs'.out).mono ?_; rintro e w1 ⟨t, rfl, ht, rfl⟩)
  rcases hr : decL t.data.toList with _ | l
  all_goals (have HR := Lib.hid hr; clear hr)
  all_goals
    go_wp2_with (first | (go_at_call 21; refine (decq_of _ _ HR.out _ (by omega)).mono ?_; rintro e w2 ⟨rfl, hb2⟩) | (go_at_call 24; refine (decr_of _ _ HR.out _ (by omega)).mono ?_; rintro e w3 ⟨rfl, hb3⟩) | (go_at_call 23; refine (awake05 _).mono ?_; rintro e w5 ⟨rfl, hb5⟩))
    go_ret
    exact ⟨rfl, (by repeat (first | assumption | exact Below.refl _ _ | refine below_of ?_ (by assumption)))⟩
set_option maxHeartbeats 2000000 in
set_option maxRecDepth 100000 in
theorem walk_printableLines (s : ByteArray) (w : World) (hs : s.size ≤ maxLen) : Calls Try.prog 8 #[.string s] w (Ret (.bool true) w) := by
  have hs' := Lib.hid hs; clear hs
  go_enter Try.func8, Try.ntmps8
  go_wp2_with (first | (go_at_call 19; refine (few05 _ _ hs'.out).mono ?_; rintro e w1 ⟨t, rfl, ht, rfl⟩) | (go_at_call 20; refine (enc_qp _ _ (by omega)).mono ?_; rintro e w1 ⟨rfl, hb1⟩))
  generalize hX : (⟨(encL 0 t.data.toList).toArray⟩ : ByteArray) = X
  have hchk := Lib.hid (show chk none 0 X.data.toList = true by rw [← hX]; exact chk_enc _ _ _ (by omega) (.inl rfl))
  have hl' : X.size ≤ 2400 := by
    have hl := encL_len t.data.toList
    have hl2 : t.data.toList.length = t.size := rfl
    rw [← hX, mk_size]; omega
  clear hX
  go_loopw [4, 5, 6] (fun l i _ wr => ∃ k line : Nat, k ≤ X.size ∧ i = .int .i64 k ∧ l = .int .i64 line ∧ line ≤ 76 ∧ Below w.heap.size w wr ∧ Hid (chk (prevAt X.data.toList k) line (X.data.toList.drop k) = true)) (fun _ i _ _ => X.size - (intOf i).toNat)
  case atStart => exact ⟨0, 0, Nat.zero_le _, rfl, rfl, by omega, (by repeat (first | assumption | exact Below.refl _ _ | refine below_of ?_ (by assumption))), Lib.hid (by simpa [prevAt] using hchk.out)⟩
  case round =>
    obtain ⟨k, line, hk, rfl, rfl, hline, hbel, hc⟩ := hrel
    by_cases hlt : k < X.size
    · rcases chk_at (x := X.data.toList) hlt hc.out with ⟨h13, ⟨hn, h10⟩, hnb, hnext⟩ | ⟨h13, h10, hp, hnext⟩ | ⟨h13, h10, hl76, h126, h32, hnext⟩
      · have g13 : X[k]'hlt = 13 := h13
        have g10 : X[k + 1]'hn = 10 := h10
        have q0 : (((X[k]'hlt).toNat : Int) == 13) = true := by rw [g13]; rfl
        have q1 : (((X[k + 1]'hn).toNat : Int) == 10) = true := by rw [g10]; rfl
        have q2 : (((X[k + 1]'hn).toNat : Int) != 10) = false := by rw [g10]; rfl
        have hn' : k + 1 < X.size := hn
        have HN := Lib.hid (show chk (prevAt X.data.toList (k + 1)) line (X.data.toList.drop (k + 1)) = true by
          rw [show prevAt X.data.toList (k + 1) = some 13 by rw [prevAt, List.getElem?_eq_getElem hlt, h13]]; exact hnext)
        have n1 : ((k : Int) == (X.size : Int) - 1) = false := by simp; omega
        have i2 : (k : Int) + 1 < (X.size : Int) := by omega
        have HH := Lib.hid hnb
        clear g13 g10 h13 h10 hnb hnext hc
        rcases k with _ | j
        · go_wp2
          go_roundw
          case rel => exact ⟨0 + 1, line, by omega, by go_num, rfl, by omega, hbel, HN⟩
          case measure => simp [intOf]; omega
        · have hj : j < X.size := by omega
          have hbl : (X[j]'hj) ≠ 32 ∧ (X[j]'hj) ≠ 9 := by
            have := HH.out
            rw [prevAt, List.getElem?_eq_getElem (show j < X.data.toList.length from hj)] at this
            exact nblank_some this
          obtain ⟨hb1, hb2⟩ := hbl
          have q3 : (((X[j]'hj).toNat : Int) == 32) = false := by simp [← UInt8.toNat_inj] at hb1 ⊢; omega
          have q4 : (((X[j]'hj).toNat : Int) == 9) = false := by simp [← UInt8.toNat_inj] at hb2 ⊢; omega
          clear hb1 hb2
          go_wp2
          go_roundw
          case rel => exact ⟨j + 1 + 1, line, by omega, by go_num, rfl, by omega, hbel, HN⟩
          case measure => simp [intOf]; omega
      · rcases k with _ | j
        · cases hp
        · have hj : j < X.size := by omega
          have g10 : X[j + 1]'hlt = 10 := h10
          have gp : X[j]'hj = 13 := by
            rw [prevAt, List.getElem?_eq_getElem (show j < X.data.toList.length from hj)] at hp
            exact Option.some.inj hp
          have q0 : (((X[j + 1]'hlt).toNat : Int) == 13) = false := by rw [g10]; rfl
          have q1 : (((X[j + 1]'hlt).toNat : Int) == 10) = true := by rw [g10]; rfl
          have q2 : (((X[j]'hj).toNat : Int) != 13) = false := by rw [gp]; rfl
          have HN := Lib.hid (show chk (prevAt X.data.toList (j + 1 + 1)) 0 (X.data.toList.drop (j + 1 + 1)) = true by
            rw [show prevAt X.data.toList (j + 1 + 1) = some 10 by rw [prevAt, List.getElem?_eq_getElem hlt, h10]]; exact hnext)
          clear g10 gp h13 h10 hp hnext hc
          go_wp2
          go_roundw
          case rel => exact ⟨j + 1 + 1, 0, by omega, by go_num, rfl, by omega, hbel, HN⟩
          case measure => simp [intOf]; omega
      · have g13 : X[k]'hlt ≠ 13 := h13
        have g10 : X[k]'hlt ≠ 10 := h10
        have g126 : ((X[k]'hlt).toNat : Int) ≤ 126 := by have := UInt8.le_iff_toNat_le.1 h126; exact Int.ofNat_le.2 this
        have q0 : (((X[k]'hlt).toNat : Int) == 13) = false := by simp [← UInt8.toNat_inj] at g13 ⊢; omega
        have q1 : (((X[k]'hlt).toNat : Int) == 10) = false := by simp [← UInt8.toNat_inj] at g10 ⊢; omega
        have HN := Lib.hid (show chk (prevAt X.data.toList (k + 1)) (line + 1) (X.data.toList.drop (k + 1)) = true by
          rw [show prevAt X.data.toList (k + 1) = some X.data.toList[k] by rw [prevAt, List.getElem?_eq_getElem hlt]]; exact hnext)
        have i1 : ¬ (76 : Int) < (line : Int) + 1 := by omega
        have g32 : (32 : Int) ≤ ((X[k]'hlt).toNat : Int) ∨ X[k]'hlt = 9 := by
          rcases h32 with h | h
          · exact .inl (Int.ofNat_le.2 (UInt8.le_iff_toNat_le.1 h))
          · exact .inr h
        clear g13 g10 h13 h10 h126 h32 hnext hc
        rcases g32 with g32 | g9
        · go_wp2
          go_roundw
          case rel => exact ⟨k + 1, line + 1, by omega, by go_num, by go_num, by omega, hbel, HN⟩
          case measure => simp [intOf]; omega
        · have q2 : decide (((X[k]'hlt).toNat : Int) < 32) = true := by rw [g9]; rfl
          have q3 : (((X[k]'hlt).toNat : Int) != 9) = false := by rw [g9]; rfl
          clear g9
          go_wp2
          go_roundw
          case rel => exact ⟨k + 1, line + 1, by omega, by go_num, by go_num, by omega, hbel, HN⟩
          case measure => simp [intOf]; omega
    · obtain rfl : k = X.size := by omega
      have hend : nblank (prevAt X.data.toList X.size) = true := by
        have := hc.out
        rw [show X.data.toList.drop X.size = [] from List.drop_of_length_le (Nat.le_refl _)] at this
        exact this
      have HE := Lib.hid hend; clear hend hc
      rcases Nat.eq_zero_or_pos X.size with hz | hz
      · have n1 : ((X.size : Int) == 0) = true := by rw [hz]; rfl
        have HZ := Lib.hid hz; clear hz
        go_wp2_with (go_at_call 23; refine (awake05 _).mono ?_; rintro e w5 ⟨rfl, hb5⟩)
        go_ret
        exact ⟨rfl, hbel.trans (hb5.mono hbel.size)⟩
      · have hj : X.size - 1 < X.size := by omega
        have hbl : (X[X.size - 1]'hj) ≠ 32 ∧ (X[X.size - 1]'hj) ≠ 9 := by
          have := HE.out
          rw [prevAt_pos hz, List.getElem?_eq_getElem (show X.size - 1 < X.data.toList.length from hj)] at this
          exact nblank_some this
        obtain ⟨hb1, hb2⟩ := hbl
        have q3 : (((X[X.size - 1]'hj).toNat : Int) == 32) = false := by simp [← UInt8.toNat_inj] at hb1 ⊢; omega
        have q4 : (((X[X.size - 1]'hj).toNat : Int) == 9) = false := by simp [← UInt8.toNat_inj] at hb2 ⊢; omega
        have q5 : (((X[X.size - 1]'hj).toNat : Int) != 32) = true := by simp [← UInt8.toNat_inj] at hb1 ⊢; omega
        have q6 : (((X[X.size - 1]'hj).toNat : Int) != 9) = true := by simp [← UInt8.toNat_inj] at hb2 ⊢; omega
        have n1 : ((X.size : Int) == 0) = false := by rw [beq_eq_false_iff_ne]; omega
        clear hb1 hb2
        go_wp2_with (go_at_call 23; refine (awake05 _).mono ?_; rintro e w5 ⟨rfl, hb5⟩)
        go_ret
        exact ⟨rfl, hbel.trans (hb5.mono hbel.size)⟩
open Go.ChangeShapes Go.WideShapes Go.ChangeAt
open Go.ChangeMaps (open_string shut_string)
namespace printableEncodesDone
theorem own : ownKnob Try.prog.godebug = none := by kernel_rfl
set_option maxRecDepth 100000 in
theorem lifted (os : Os) (started : os.Started) (H : Type) (enc : TypeId × Value → H) :
    ReturnsInHanded {} Try.checked os 6 .any (Rows.printableEncodesSpec.pre6 enc Try.prog Try.f6 Rows.printableEncodesRow.domain false) (Rows.printableEncodesSpec.post enc Try.prog Try.f6 false true false false) := by
  refine returnsInHanded_of_change (C := Try.checked) own started (by kernel_rfl) Try.func6
    (ChangeSpec.witness6 (enc := enc) (C := Try.checked) false ⟨#[], #[.string ⟨#[]⟩], []⟩ 8 (by kernel_rfl) (by kernel_rfl) (by kernel_rfl) (by kernel_rfl)) ?_
  intro W base args ds gs before hval0 hW hcnd _
  have hval : ∀ (j : Nat) t v, Try.f6.params[j]? = some t → args[j]? = some v → Value.okWide Try.prog W .any base t v := hval0
  have hW' := hW
  obtain ⟨p, q, hA0, hV, rfl, hfz, hnd⟩ := hW
  have hA : DataW.TrodAll enc Try.prog W 0 (fun _ => true) true Try.f6.params.toList args.toList ds p := hA0
  rw [Try.params6] at hA hval
  obtain ⟨v0, vs0, d0, ds0, p0, q0, hargs, rfl, rfl, h0, r0⟩ := trodAll_cons hA
  obtain ⟨rfl, rfl, rfl⟩ := trodAll_nil r0
  obtain rfl : args = #[v0] := by cases args; simp_all
  obtain ⟨rfl, rfl⟩ := trodVars_none hV
  obtain ⟨s, rfl, rfl, rfl, w0⟩ := open_string Try.underlying9 (hval 0 9 v0 rfl rfl) h0
  clear hA0 hval0
  refine (walk_printableEncodes s W w0).mono fun e W' ⟨he, bel⟩ => ?_
  subst he
  exact ⟨_, rfl, _, _, _, [], _, [], hW', trodAll_mk1 (shut_bool Try.underlying4 _), (trodAll_cons_mk (shut_string Try.underlying9 w0) trodAll_mk0), rfl, bel.frame _, fun h => by cases h⟩
theorem over : Rows.printableEncodesRow.holds Try.pinned (OpenSpec.ofChange Rows.printableEncodesSpec) :=
  OpenClaim.holds_of_wide 6 Try.f6 rfl rfl rfl rfl rfl rfl rfl ⟨rfl, rfl, rfl, rfl, rfl⟩ rfl rfl rfl rfl rfl (by kernel_rfl) Try.func6 (by kernel_rfl)
    (of_decide_eq_true (by kernel_rfl)) (by unfold Func.isWrapper; first | (rw [if_pos (by decide +kernel)]; kernel_rfl) | (rw [if_neg (by decide +kernel)]; exact ⟨rfl, rfl⟩))
    (fun os started H enc _ => lifted os started H enc)
theorem proved : Rows.PrintableEncodesSaid := over
end printableEncodesDone
namespace printableDecodesDone
theorem own : ownKnob Try.prog.godebug = none := by kernel_rfl
set_option maxRecDepth 100000 in
theorem lifted (os : Os) (started : os.Started) (H : Type) (enc : TypeId × Value → H) :
    ReturnsInHanded {} Try.checked os 7 .any (Rows.printableDecodesSpec.pre6 enc Try.prog Try.f7 Rows.printableDecodesRow.domain false) (Rows.printableDecodesSpec.post enc Try.prog Try.f7 false true false false) := by
  refine returnsInHanded_of_change (C := Try.checked) own started (by kernel_rfl) Try.func7
    (ChangeSpec.witness6 (enc := enc) (C := Try.checked) false ⟨#[], #[.string ⟨#[]⟩], []⟩ 8 (by kernel_rfl) (by kernel_rfl) (by kernel_rfl) (by kernel_rfl)) ?_
  intro W base args ds gs before hval0 hW hcnd _
  have hval : ∀ (j : Nat) t v, Try.f7.params[j]? = some t → args[j]? = some v → Value.okWide Try.prog W .any base t v := hval0
  have hW' := hW
  obtain ⟨p, q, hA0, hV, rfl, hfz, hnd⟩ := hW
  have hA : DataW.TrodAll enc Try.prog W 0 (fun _ => true) true Try.f7.params.toList args.toList ds p := hA0
  rw [Try.params7] at hA hval
  obtain ⟨v0, vs0, d0, ds0, p0, q0, hargs, rfl, rfl, h0, r0⟩ := trodAll_cons hA
  obtain ⟨rfl, rfl, rfl⟩ := trodAll_nil r0
  obtain rfl : args = #[v0] := by cases args; simp_all
  obtain ⟨rfl, rfl⟩ := trodVars_none hV
  obtain ⟨s, rfl, rfl, rfl, w0⟩ := open_string Try.underlying9 (hval 0 9 v0 rfl rfl) h0
  clear hA0 hval0
  refine (walk_printableDecodes s W w0).mono fun e W' ⟨he, bel⟩ => ?_
  subst he
  exact ⟨_, rfl, _, _, _, [], _, [], hW', trodAll_mk1 (shut_bool Try.underlying4 _), (trodAll_cons_mk (shut_string Try.underlying9 w0) trodAll_mk0), rfl, bel.frame _, fun h => by cases h⟩
theorem over : Rows.printableDecodesRow.holds Try.pinned (OpenSpec.ofChange Rows.printableDecodesSpec) :=
  OpenClaim.holds_of_wide 7 Try.f7 rfl rfl rfl rfl rfl rfl rfl ⟨rfl, rfl, rfl, rfl, rfl⟩ rfl rfl rfl rfl rfl (by kernel_rfl) Try.func7 (by kernel_rfl)
    (of_decide_eq_true (by kernel_rfl)) (by unfold Func.isWrapper; first | (rw [if_pos (by decide +kernel)]; kernel_rfl) | (rw [if_neg (by decide +kernel)]; exact ⟨rfl, rfl⟩))
    (fun os started H enc _ => lifted os started H enc)
theorem proved : Rows.PrintableDecodesSaid := over
end printableDecodesDone
namespace printableLinesDone
theorem own : ownKnob Try.prog.godebug = none := by kernel_rfl
set_option maxRecDepth 100000 in
theorem lifted (os : Os) (started : os.Started) (H : Type) (enc : TypeId × Value → H) :
    ReturnsInHanded {} Try.checked os 8 .any (Rows.printableLinesSpec.pre6 enc Try.prog Try.f8 Rows.printableLinesRow.domain false) (Rows.printableLinesSpec.post enc Try.prog Try.f8 false true false false) := by
  refine returnsInHanded_of_change (C := Try.checked) own started (by kernel_rfl) Try.func8
    (ChangeSpec.witness6 (enc := enc) (C := Try.checked) false ⟨#[], #[.string ⟨#[]⟩], []⟩ 8 (by kernel_rfl) (by kernel_rfl) (by kernel_rfl) (by kernel_rfl)) ?_
  intro W base args ds gs before hval0 hW hcnd _
  have hval : ∀ (j : Nat) t v, Try.f8.params[j]? = some t → args[j]? = some v → Value.okWide Try.prog W .any base t v := hval0
  have hW' := hW
  obtain ⟨p, q, hA0, hV, rfl, hfz, hnd⟩ := hW
  have hA : DataW.TrodAll enc Try.prog W 0 (fun _ => true) true Try.f8.params.toList args.toList ds p := hA0
  rw [Try.params8] at hA hval
  obtain ⟨v0, vs0, d0, ds0, p0, q0, hargs, rfl, rfl, h0, r0⟩ := trodAll_cons hA
  obtain ⟨rfl, rfl, rfl⟩ := trodAll_nil r0
  obtain rfl : args = #[v0] := by cases args; simp_all
  obtain ⟨rfl, rfl⟩ := trodVars_none hV
  obtain ⟨s, rfl, rfl, rfl, w0⟩ := open_string Try.underlying9 (hval 0 9 v0 rfl rfl) h0
  clear hA0 hval0
  refine (walk_printableLines s W w0).mono fun e W' ⟨he, bel⟩ => ?_
  subst he
  exact ⟨_, rfl, _, _, _, [], _, [], hW', trodAll_mk1 (shut_bool Try.underlying4 _), (trodAll_cons_mk (shut_string Try.underlying9 w0) trodAll_mk0), rfl, bel.frame _, fun h => by cases h⟩
theorem over : Rows.printableLinesRow.holds Try.pinned (OpenSpec.ofChange Rows.printableLinesSpec) :=
  OpenClaim.holds_of_wide 8 Try.f8 rfl rfl rfl rfl rfl rfl rfl ⟨rfl, rfl, rfl, rfl, rfl⟩ rfl rfl rfl rfl rfl (by kernel_rfl) Try.func8 (by kernel_rfl)
    (of_decide_eq_true (by kernel_rfl)) (by unfold Func.isWrapper; first | (rw [if_pos (by decide +kernel)]; kernel_rfl) | (rw [if_neg (by decide +kernel)]; exact ⟨rfl, rfl⟩))
    (fun os started H enc _ => lifted os started H enc)
theorem proved : Rows.PrintableLinesSaid := over
end printableLinesDone
end Go.Proofs.Ytbkhgmehfgfmfaa
