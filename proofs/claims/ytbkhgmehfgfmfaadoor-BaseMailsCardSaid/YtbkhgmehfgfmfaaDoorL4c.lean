/- Layer 4, base64: Mail and Unmail agree with the reference and are inverse, and no line is too long: under the tied condition that the table holds the digits. -/
import Derived.Test.YtbkhgmehfgfmfaaDoorL04
import Derived.Test.YtbkhgmehfgfmfaaDoorTie
import Derived.Test.YtbkhgmehfgfmfaaDoorCards
import Derived.SevenTiedAt
set_option linter.unusedVariables false
set_option synthInstance.maxSize 4000
namespace Nun
theorem chkM_at {x : List UInt8} {k n : Nat} (h : k < x.length) (hc : chkM n (x.drop k) = true) :
    (x[k] = 10 ∧ chkM 0 (x.drop (k + 1)) = true) ∨ (x[k] ≠ 10 ∧ n + 1 ≤ 76 ∧ chkM (n + 1) (x.drop (k + 1)) = true) ∨ (x[k] = 13 ∧ chkM (n + 1) (x.drop (k + 1)) = true) := by
  rw [List.drop_eq_getElem_cons h, chkM] at hc
  by_cases h10 : x[k] = 10
  · rw [if_pos h10] at hc; exact .inl ⟨h10, by simpa using hc⟩
  · rw [if_neg h10] at hc
    simp only [Bool.and_eq_true, Bool.or_eq_true, decide_eq_true_eq, beq_iff_eq] at hc
    rcases hc with ⟨h1 | h1, h2⟩
    · exact .inr (.inl ⟨h10, h1, h2⟩)
    · exact .inr (.inr ⟨h1, h2⟩)
end Nun
namespace Go.Proofs.YtbkhgmehfgfmfaaDoor
open Go.RowKit Nun
theorem unmail_of (s : ByteArray) (o : Option (List UInt8)) (h : dec64 (bare s.data.toList) = o) (w : World) (hs : s.size ≤ 1000000) : Calls Tryd.prog 18 #[.string s] w (Ret (dec64V o) w) := h ▸ unmail64 s w hs
theorem unmailr_of (s : ByteArray) (o : Option (List UInt8)) (h : dec64 (bare s.data.toList) = o) (w : World) (hs : s.size ≤ 100000) : Calls Tryd.prog 19 #[.string s] w (Ret (dec64V o) w) := h ▸ unmail_ref decode_ref64 s w hs
theorem mail_of (s : ByteArray) (l : List UInt8) (h : wrapI 76 (enc64 s.data.toList) = l) (w : World) (hT : Tab w) (hs : s.size ≤ 100000) : Calls Tryd.prog 17 #[.string s] w (Ret (.string ⟨l.toArray⟩) w) := h ▸ mail64 s w hT hs
set_option maxHeartbeats 2000000 in
theorem walk_baseMails (b s : ByteArray) (w : World) (hT : Tab w) (hb : b.size ≤ maxLen) (hs : s.size ≤ maxLen) : Calls Tryd.prog 6 #[.string b, .string s] w (Ret (.bool true) w) := by
  have hb' := Lib.hid hb; have hs' := Lib.hid hs; clear hb hs
  go_enter Tryd.func6, Tryd.ntmps6
  go_wp2_with (go_at_call 7; first | ((with_reducible refine (few04 b _ hb'.out).mono ?_); rintro e w1 ⟨t1, rfl, ht1, rfl⟩) | ((with_reducible refine (few04 s _ hs'.out).mono ?_); rintro e w1 ⟨t2, rfl, ht2, rfl⟩))
  obtain ⟨E, hE⟩ : ∃ E, enc64 t1.data.toList = E := ⟨_, rfl⟩
  have hEl : E.length ≤ 1000 := by have := enc64_len _ t1.data.toList (Nat.le_refl _); rw [hE, len_data] at this; omega
  have hD := dec_enc _ t1.data.toList (Nat.le_refl _)
  have hR := enc_law _ t1.data.toList (Nat.le_refl _)
  have hten := enc64_ten _ t1.data.toList (Nat.le_refl _)
  have hhard := enc64_hard _ t1.data.toList (Nat.le_refl _)
  rw [hE] at hD hR hten hhard
  obtain ⟨M, hM⟩ : ∃ M, wrapI 76 E = M := ⟨_, rfl⟩
  have hM' : wrapL 75 E = M := by rw [← hM]; rfl
  have hMl : M.length ≤ 3000 := by have := wrapL_len 75 _ E (Nat.le_refl _); rw [hM'] at this; omega
  have hbare := bare_wrap 75 _ E (Nat.le_refl _) hhard
  have hchk := chkM_wrap _ E (Nat.le_refl _) hten
  rw [hM'] at hbare hchk
  have HM := Lib.hid (show wrapI 76 (enc64 t1.data.toList) = M by rw [hE, hM])
  have HE := Lib.hid hE; have HR := Lib.hid hR; have HW := Lib.hid hM
  have HB := Lib.hid (show dec64 (bare (ByteArray.mk M.toArray).data.toList) = some t1.data.toList by show dec64 (bare M) = _; rw [hbare, hD])
  have HC := Lib.hid hchk
  clear hE hM hM' hD hR hten hhard hbare hchk
  obtain ⟨X, hX⟩ : ∃ X : ByteArray, X = ⟨M.toArray⟩ := ⟨_, rfl⟩
  have hXs : X.size = M.length := by rw [hX]; rfl
  have hXd : X.data.toList = M := by rw [hX]
  rw [← hX] at HB
  have HX := Lib.hid hX; have HXd := Lib.hid hXd; clear hX hXd
  have mailX : ∀ w, Tab w → Calls Tryd.prog 17 #[.string t1] w (Ret (.string X) w) := fun w hT => by rw [HX.out]; exact mail_of t1 M HM.out w hT (by omega)
  have wrapX : ∀ w, Calls Tryd.prog 14 #[.string ⟨E.toArray⟩, .int .i64 76] w (Ret (.string X) w) := fun w => by rw [HX.out]; exact wrapr_of ⟨E.toArray⟩ 76 M HW.out w (by rw [mk_size]; omega)
  have MX := Lib.hid mailX; have WX := Lib.hid wrapX; clear mailX wrapX
  have hXl : X.size ≤ 3000 := by omega
  have HXs := Lib.hid hXs; clear hXs
  rcases hr : dec64 (bare t2.data.toList) with _ | l
  all_goals
    have HQ := Lib.hid hr; clear hr
    go_wp2_with (first | (go_at_call 17; refine (MX.out _ hT).mono ?_; rintro e w1 ⟨rfl, hb1⟩; have hT := hT.kept hb1) | (go_at_call 18; first | ((with_reducible refine (unmail_of X _ HB.out _ (by omega)).mono ?_); rintro e w2 ⟨rfl, hb2⟩; simp only [dec64V_some]; have hT := hT.kept hb2) | (refine (unmail_of t2 _ HQ.out _ (by omega)).mono ?_; rintro e w3 ⟨rfl, hb3⟩; simp only [dec64V_some, dec64V_none]; have hT := hT.kept hb3)) | (go_at_call 19; refine (unmailr_of t2 _ HQ.out _ (by omega)).mono ?_; rintro e w4 ⟨rfl, hb4⟩; simp only [dec64V_some, dec64V_none]; have hT := hT.kept hb4))
    have hbel : Below w.heap.size w w4 := (by repeat (first | assumption | exact Below.refl _ _ | refine below_of ?_ (by assumption)))
    go_loopw [12, 13] (fun l i wr => ∃ k line : Nat, k ≤ X.size ∧ i = .int .i64 k ∧ l = .int .i64 line ∧ line ≤ k ∧ wr = w4 ∧ Hid (chkM line (X.data.toList.drop k) = true)) (fun _ i _ => X.size - (intOf i).toNat)
    case atStart => exact ⟨0, 0, Nat.zero_le _, rfl, rfl, Nat.le_refl _, rfl, Lib.hid (by rw [HXd.out]; exact HC.out)⟩
    case round =>
      obtain ⟨k, line, hk, rfl, rfl, hline, rfl, hc⟩ := hrel
      by_cases hlt : k < X.size
      · have hc' := chkM_at (x := X.data.toList) hlt hc.out
        have hXk : X.data.toList[k]'hlt = X[k]'hlt := rfl
        rw [hXk] at hc'
        rcases hc' with ⟨hc10, hnext⟩ | ⟨hc10, hle, hnext⟩ | ⟨hc13, hnext⟩
        · have HN := Lib.hid hnext
          have q1 : (((X[k]'hlt).toNat : Int) == 10) = true := by rw [hc10]; rfl
          clear hc10 hnext hc hXk
          go_wp2
          go_roundw
          case rel => exact ⟨k + 1, 0, by omega, by go_num, rfl, by omega, trivial, HN⟩
          case measure => simp [intOf]; omega
        · have HN := Lib.hid hnext
          have q1 : (((X[k]'hlt).toNat : Int) == 10) = false := by simp [← UInt8.toNat_inj] at hc10 ⊢; omega
          have q2 : ¬ (76 : Int) < (line : Int) + 1 := by omega
          clear hc10 hnext hc hXk
          go_wp2
          go_roundw
          case rel => exact ⟨k + 1, line + 1, by omega, by go_num, by go_num, by omega, trivial, HN⟩
          case measure => simp [intOf]; omega
        · have HN := Lib.hid hnext
          have q1 : (((X[k]'hlt).toNat : Int) == 10) = false := by rw [hc13]; rfl
          have q2 : (((X[k]'hlt).toNat : Int) != 13) = false := by rw [hc13]; rfl
          clear hc13 hnext hc hXk
          by_cases q3 : (76 : Int) < (line : Int) + 1
          all_goals
            go_wp2
            go_roundw
            case rel => exact ⟨k + 1, line + 1, by omega, by go_num, by go_num, by omega, trivial, HN⟩
            case measure => simp [intOf]; omega
      · obtain rfl : k = X.size := by omega
        clear hc
        go_wp2_with (first | (go_at_call 11; refine (encode_of t1 _ HR.out _ (by omega)).mono ?_; rintro e w5 ⟨rfl, hb5⟩; have hT := hT.kept hb5) | (go_at_call 14; refine (WX.out _).mono ?_; rintro e w6 ⟨rfl, hb6⟩; have hT := hT.kept hb6) | (go_at_call 12; refine (awake04 _ hT).mono ?_; rintro e w7 ⟨rfl, hb7⟩))
        go_ret
        exact ⟨rfl, ((hbel.trans (hb5.mono hbel.size)).trans (hb6.mono (Nat.le_trans hbel.size hb5.size))).trans (hb7.mono (Nat.le_trans (Nat.le_trans hbel.size hb5.size) hb6.size))⟩
open Go.ChangeShapes Go.WideShapes Go.ChangeAt
open Go.ChangeMaps (open_string shut_string)
namespace baseMailsDone
theorem own : ownKnob Tryd.prog.godebug = none := by kernel_rfl
set_option maxRecDepth 100000 in
theorem lifted (os : Os) (started : os.Started) (H : Type) (enc : TypeId × Value → H) :
    ReturnsInHanded {} Tryd.checked os 6 .any (fun w args => (Rows.baseMailsSpec.pre enc Tryd.prog Tryd.f6 [] false w args ∧ laidMetH Tryd.prog [("nuncio/b64.table", Rows.laid_nuncio_b64_table)] w) ∧ sizedMet enc Tryd.prog Tryd.f6 (OpenSpec.ofChange Rows.baseMailsSpec) false w args)
      (Rows.baseMailsSpec.post enc Tryd.prog Tryd.f6 false true false false) := by
  refine returnsInHanded_of_change_and (C := Tryd.checked) (X := fun w _ => laidMetH Tryd.prog [("nuncio/b64.table", Rows.laid_nuncio_b64_table)] w) (fun _ _ _ hh h => h.of_heap hh) own started (by kernel_rfl) Tryd.func6
    (ChangeSpec.witness_shaped (enc := enc) (C := Tryd.checked) (os := os) (X := fun w _ => laidMetH Tryd.prog [("nuncio/b64.table", Rows.laid_nuncio_b64_table)] w) false (World.doorLaid Tryd.prog 400 os) #[.string ⟨#[]⟩, .string ⟨#[]⟩] 8 rfl (World.shaped_of_RefB (by kernel_rfl) (by kernel_rfl)) (by kernel_rfl) (by kernel_rfl) (by kernel_rfl) (door_met os _)) ?_
  intro W base args ds gs before hval0 hW _ _ hL _
  have hval : ∀ (j : Nat) t v, Tryd.f6.params[j]? = some t → args[j]? = some v → Value.okWide Tryd.prog W .any base t v := hval0
  have hW' := hW
  obtain ⟨p, q, hA0, hV, rfl, hfz, hnd⟩ := hW
  have hA : DataW.TrodAll enc Tryd.prog W 0 (fun _ => true) true Tryd.f6.params.toList args.toList ds p := hA0
  rw [Tryd.params6] at hA hval
  obtain ⟨v0, vs0, d0, ds0, p0, q0, hargs, rfl, rfl, h0, r0⟩ := trodAll_cons hA
  obtain ⟨v1, vs1, d1, ds1, p1, q1, rfl, rfl, rfl, h1, r1⟩ := trodAll_cons r0
  obtain ⟨rfl, rfl, rfl⟩ := trodAll_nil r1
  obtain rfl : args = #[v0, v1] := by cases args; simp_all
  obtain ⟨rfl, rfl⟩ := trodVars_none hV
  obtain ⟨b, rfl, rfl, rfl, w0⟩ := open_string Tryd.underlying9 (hval 0 9 v0 rfl rfl) h0
  obtain ⟨s, rfl, rfl, rfl, w1⟩ := open_string Tryd.underlying9 (hval 1 9 v1 rfl rfl) h1
  clear hA0 hval0
  refine (walk_baseMails b s W (tab_of_laid hL) w0 w1).mono fun e W' ⟨he, bel⟩ => ?_
  subst he
  exact ⟨_, rfl, _, _, _, [], _, [], hW', trodAll_mk1 (shut_bool Tryd.underlying4 _), (trodAll_cons_mk (shut_string Tryd.underlying9 w0) (trodAll_cons_mk (shut_string Tryd.underlying9 w1) trodAll_mk0)), rfl, bel.frame _, fun h => by cases h⟩
theorem over : Rows.baseMailsRow.holds Tryd.pinned (OpenSpec.ofChange Rows.baseMailsSpec) :=
  OpenClaim.holds_of_wide 6 Tryd.f6 rfl rfl rfl rfl rfl rfl rfl ⟨rfl, rfl, rfl, rfl, rfl⟩ rfl rfl rfl rfl rfl (by kernel_rfl) Tryd.func6 (by kernel_rfl)
    (of_decide_eq_true (by kernel_rfl)) (by unfold Func.isWrapper; first | (rw [if_pos (by decide +kernel)]; kernel_rfl) | (rw [if_neg (by decide +kernel)]; exact ⟨rfl, rfl⟩))
    (fun os started H enc _ => lifted os started H enc)
theorem proved : Rows.BaseMailsCardSaid :=
  Claim7.holds_tied_plain_at .later [] [.data] true (true, "5bb2e1a3f14e205e315e892f3342b3fbd4d78f5da039db78b6bce9347f48fd58") false
    over (fun _ h => by cases h) (by kernel_rfl) (fun _ h => by cases h) baseMails_row_tie rfl ⟨rfl, rfl⟩ (by kernel_rfl) rfl
    (fun f fn hf hfn => by
      obtain rfl : f = 6 := Option.some.inj ((show Tryd.prog.funcNamed "nuncio/nunciolaw04.BaseMails" = some 6 by kernel_rfl).symm.trans hf) |>.symm
      obtain rfl : fn = Tryd.f6 := (Option.some.inj (Tryd.func6.symm.trans hfn)).symm
      exact ⟨by kernel_rfl, fun j t ht => by
        rw [Tryd.params6] at ht
        have hm : t ∈ [9, 9] := by simpa using Array.mem_of_getElem? ht
        have hall : ([9, 9].all fun u => !Tryd.prog.wantsStandIn u) = true := by kernel_rfl
        exact (show Tryd.prog.wantsStandIn t = false by simpa using List.all_eq_true.1 hall t hm)⟩)
    (by kernel_rfl)
end baseMailsDone
end Go.Proofs.YtbkhgmehfgfmfaaDoor
