/- Layer 4, base64: Encode and Decode agree with the reference and are inverse; Wrap agrees with the reference: under the tied condition that the table holds the digits. -/
import Derived.Test.YtbkhgmehfgfmfaaDoorL04
import Derived.Test.YtbkhgmehfgfmfaaDoorTie
import Derived.Test.YtbkhgmehfgfmfaaDoorCards
import Derived.SevenTiedAt
set_option linter.unusedVariables false
set_option synthInstance.maxSize 4000
namespace Go.Proofs.YtbkhgmehfgfmfaaDoor
open Go.RowKit Nun
set_option maxHeartbeats 1000000 in
theorem walk_baseCodes (b s : ByteArray) (w : World) (hT : Tab w) (hb : b.size ≤ maxLen) (hs : s.size ≤ maxLen) : Calls Tryd.prog 3 #[.string b, .string s] w (Ret (.bool true) w) := by
  have hb' := Lib.hid hb; have hs' := Lib.hid hs; clear hb hs
  go_enter Tryd.func3, Tryd.ntmps3
  go_wp2_with (go_at_call 7; first | ((with_reducible refine (few04 b _ hb'.out).mono ?_); rintro e w1 ⟨t1, rfl, ht1, rfl⟩) | ((with_reducible refine (few04 s _ hs'.out).mono ?_); rintro e w1 ⟨t2, rfl, ht2, rfl⟩))
  obtain ⟨E, hE⟩ : ∃ E, enc64 t1.data.toList = E := ⟨_, rfl⟩
  have hEl : E.length ≤ 1000 := by have := enc64_len _ t1.data.toList (Nat.le_refl _); rw [hE, len_data] at this; omega
  have hD := dec_enc _ t1.data.toList (Nat.le_refl _)
  have hR := enc_law _ t1.data.toList (Nat.le_refl _)
  rw [hE] at hD hR
  have HE := Lib.hid hE; have HD := Lib.hid hD; have HR := Lib.hid hR; clear hE hD hR
  rcases hr : dec64 t2.data.toList with _ | l
  all_goals
    have HQ := Lib.hid hr; clear hr
    go_wp2_with (first | (go_at_call 8; refine (enc_of64 _ _ HE.out _ hT (by omega)).mono ?_; rintro e w1 ⟨rfl, hb1⟩; have hT := hT.kept hb1) | (go_at_call 9; first | ((with_reducible refine (dec_of _ E _ rfl HD.out _ (by rw [mk_size]; omega)).mono ?_); rintro e w2 ⟨rfl, hb2⟩; simp only [dec64V_some]; have hT := hT.kept hb2) | (refine (dec_of t2 _ _ rfl HQ.out _ (by omega)).mono ?_; rintro e w3 ⟨rfl, hb3⟩; simp only [dec64V_some, dec64V_none]; have hT := hT.kept hb3)) | (go_at_call 10; refine (decr_of t2 _ HQ.out _ (by omega)).mono ?_; rintro e w4 ⟨rfl, hb4⟩; simp only [dec64V_some, dec64V_none]; have hT := hT.kept hb4) | (go_at_call 11; refine (encode_of t1 _ HR.out _ (by omega)).mono ?_; rintro e w5 ⟨rfl, hb5⟩; have hT := hT.kept hb5) | (go_at_call 12; refine (awake04 _ hT).mono ?_; rintro e w6 ⟨rfl, hb6⟩))
    go_ret
    exact ⟨rfl, (by repeat (first | assumption | exact Below.refl _ _ | refine below_of ?_ (by assumption)))⟩
set_option maxHeartbeats 1000000 in
theorem walk_baseWraps (s : ByteArray) (n : Int) (w : World) (hT : Tab w) (hs : s.size ≤ maxLen) (hn : (Lit.int .i64 n).wf = true) : Calls Tryd.prog 4 #[.string s, .int .i64 n] w (Ret (.bool true) w) := by
  have hs' := Lib.hid hs; clear hs hn
  go_enter Tryd.func4, Tryd.ntmps4
  go_wp2_with (go_at_call 7; refine (few04 s _ hs'.out).mono ?_; rintro e w1 ⟨t, rfl, ht, rfl⟩)
  obtain ⟨V, hV⟩ : ∃ V, wrapI n t.data.toList = V := ⟨_, rfl⟩
  have HV := Lib.hid hV; clear hV
  go_wp2_with (first | (go_at_call 13; refine (wrap_of _ _ _ HV.out _ (by omega)).mono ?_; rintro e w1 ⟨rfl, hb1⟩; have hT := hT.kept hb1) | (go_at_call 14; refine (wrapr_of _ _ _ HV.out _ (by omega)).mono ?_; rintro e w2 ⟨rfl, hb2⟩; have hT := hT.kept hb2) | (go_at_call 12; refine (awake04 _ hT).mono ?_; rintro e w6 ⟨rfl, hb6⟩))
  go_ret
  exact ⟨rfl, (by repeat (first | assumption | exact Below.refl _ _ | refine below_of ?_ (by assumption)))⟩
open Go.ChangeShapes Go.WideShapes Go.ChangeAt
open Go.ChangeMaps (open_string shut_string)
namespace baseCodesDone
theorem own : ownKnob Tryd.prog.godebug = none := by kernel_rfl
set_option maxRecDepth 100000 in
theorem lifted (os : Os) (started : os.Started) (H : Type) (enc : TypeId × Value → H) :
    ReturnsInHanded {} Tryd.checked os 3 .any (fun w args => (Rows.baseCodesSpec.pre enc Tryd.prog Tryd.f3 [] false w args ∧ laidMetH Tryd.prog [("nuncio/b64.table", Rows.laid_nuncio_b64_table)] w) ∧ sizedMet enc Tryd.prog Tryd.f3 (OpenSpec.ofChange Rows.baseCodesSpec) false w args)
      (Rows.baseCodesSpec.post enc Tryd.prog Tryd.f3 false true false false) := by
  refine returnsInHanded_of_change_and (C := Tryd.checked) (X := fun w _ => laidMetH Tryd.prog [("nuncio/b64.table", Rows.laid_nuncio_b64_table)] w) (fun _ _ _ hh h => h.of_heap hh) own started (by kernel_rfl) Tryd.func3
    (ChangeSpec.witness_shaped (enc := enc) (C := Tryd.checked) (os := os) (X := fun w _ => laidMetH Tryd.prog [("nuncio/b64.table", Rows.laid_nuncio_b64_table)] w) false (World.doorLaid Tryd.prog 400 os) #[.string ⟨#[]⟩, .string ⟨#[]⟩] 8 rfl (World.shaped_of_RefB (by kernel_rfl) (by kernel_rfl)) (by kernel_rfl) (by kernel_rfl) (by kernel_rfl) (door_met os _)) ?_
  intro W base args ds gs before hval0 hW _ _ hL _
  have hval : ∀ (j : Nat) t v, Tryd.f3.params[j]? = some t → args[j]? = some v → Value.okWide Tryd.prog W .any base t v := hval0
  have hW' := hW
  obtain ⟨p, q, hA0, hV, rfl, hfz, hnd⟩ := hW
  have hA : DataW.TrodAll enc Tryd.prog W 0 (fun _ => true) true Tryd.f3.params.toList args.toList ds p := hA0
  rw [Tryd.params3] at hA hval
  obtain ⟨v0, vs0, d0, ds0, p0, q0, hargs, rfl, rfl, h0, r0⟩ := trodAll_cons hA
  obtain ⟨v1, vs1, d1, ds1, p1, q1, rfl, rfl, rfl, h1, r1⟩ := trodAll_cons r0
  obtain ⟨rfl, rfl, rfl⟩ := trodAll_nil r1
  obtain rfl : args = #[v0, v1] := by cases args; simp_all
  obtain ⟨rfl, rfl⟩ := trodVars_none hV
  obtain ⟨b, rfl, rfl, rfl, w0⟩ := open_string Tryd.underlying9 (hval 0 9 v0 rfl rfl) h0
  obtain ⟨s, rfl, rfl, rfl, w1⟩ := open_string Tryd.underlying9 (hval 1 9 v1 rfl rfl) h1
  clear hA0 hval0
  refine (walk_baseCodes b s W (tab_of_laid hL) w0 w1).mono fun e W' ⟨he, bel⟩ => ?_
  subst he
  exact ⟨_, rfl, _, _, _, [], _, [], hW', trodAll_mk1 (shut_bool Tryd.underlying4 _), (trodAll_cons_mk (shut_string Tryd.underlying9 w0) (trodAll_cons_mk (shut_string Tryd.underlying9 w1) trodAll_mk0)), rfl, bel.frame _, fun h => by cases h⟩
theorem over : Rows.baseCodesRow.holds Tryd.pinned (OpenSpec.ofChange Rows.baseCodesSpec) :=
  OpenClaim.holds_of_wide 3 Tryd.f3 rfl rfl rfl rfl rfl rfl rfl ⟨rfl, rfl, rfl, rfl, rfl⟩ rfl rfl rfl rfl rfl (by kernel_rfl) Tryd.func3 (by kernel_rfl)
    (of_decide_eq_true (by kernel_rfl)) (by unfold Func.isWrapper; first | (rw [if_pos (by decide +kernel)]; kernel_rfl) | (rw [if_neg (by decide +kernel)]; exact ⟨rfl, rfl⟩))
    (fun os started H enc _ => lifted os started H enc)
theorem proved : Rows.BaseCodesCardSaid :=
  Claim7.holds_tied_plain_at .later [] [.data] true (true, "5bb2e1a3f14e205e315e892f3342b3fbd4d78f5da039db78b6bce9347f48fd58") false
    over (fun _ h => by cases h) (by kernel_rfl) (fun _ h => by cases h) baseCodes_row_tie rfl ⟨rfl, rfl⟩ (by kernel_rfl) rfl
    (fun f fn hf hfn => by
      obtain rfl : f = 3 := Option.some.inj ((show Tryd.prog.funcNamed "nuncio/nunciolaw04.BaseCodes" = some 3 by kernel_rfl).symm.trans hf) |>.symm
      obtain rfl : fn = Tryd.f3 := (Option.some.inj (Tryd.func3.symm.trans hfn)).symm
      exact ⟨by kernel_rfl, fun j t ht => by
        rw [Tryd.params3] at ht
        have hm : t ∈ [9, 9] := by simpa using Array.mem_of_getElem? ht
        have hall : ([9, 9].all fun u => !Tryd.prog.wantsStandIn u) = true := by kernel_rfl
        exact (show Tryd.prog.wantsStandIn t = false by simpa using List.all_eq_true.1 hall t hm)⟩)
    (by kernel_rfl)
end baseCodesDone
namespace baseWrapsDone
theorem own : ownKnob Tryd.prog.godebug = none := by kernel_rfl
set_option maxRecDepth 100000 in
theorem lifted (os : Os) (started : os.Started) (H : Type) (enc : TypeId × Value → H) :
    ReturnsInHanded {} Tryd.checked os 4 .any (fun w args => (Rows.baseWrapsSpec.pre enc Tryd.prog Tryd.f4 [] false w args ∧ laidMetH Tryd.prog [("nuncio/b64.table", Rows.laid_nuncio_b64_table)] w) ∧ sizedMet enc Tryd.prog Tryd.f4 (OpenSpec.ofChange Rows.baseWrapsSpec) false w args)
      (Rows.baseWrapsSpec.post enc Tryd.prog Tryd.f4 false true false false) := by
  refine returnsInHanded_of_change_and (C := Tryd.checked) (X := fun w _ => laidMetH Tryd.prog [("nuncio/b64.table", Rows.laid_nuncio_b64_table)] w) (fun _ _ _ hh h => h.of_heap hh) own started (by kernel_rfl) Tryd.func4
    (ChangeSpec.witness_shaped (enc := enc) (C := Tryd.checked) (os := os) (X := fun w _ => laidMetH Tryd.prog [("nuncio/b64.table", Rows.laid_nuncio_b64_table)] w) false (World.doorLaid Tryd.prog 400 os) #[.string ⟨#[]⟩, .int .i64 0] 8 rfl (World.shaped_of_RefB (by kernel_rfl) (by kernel_rfl)) (by kernel_rfl) (by kernel_rfl) (by kernel_rfl) (door_met os _)) ?_
  intro W base args ds gs before hval0 hW _ _ hL _
  have hval : ∀ (j : Nat) t v, Tryd.f4.params[j]? = some t → args[j]? = some v → Value.okWide Tryd.prog W .any base t v := hval0
  have hW' := hW
  obtain ⟨p, q, hA0, hV, rfl, hfz, hnd⟩ := hW
  have hA : DataW.TrodAll enc Tryd.prog W 0 (fun _ => true) true Tryd.f4.params.toList args.toList ds p := hA0
  rw [Tryd.params4] at hA hval
  obtain ⟨v0, vs0, d0, ds0, p0, q0, hargs, rfl, rfl, h0, r0⟩ := trodAll_cons hA
  obtain ⟨v1, vs1, d1, ds1, p1, q1, rfl, rfl, rfl, h1, r1⟩ := trodAll_cons r0
  obtain ⟨rfl, rfl, rfl⟩ := trodAll_nil r1
  obtain rfl : args = #[v0, v1] := by cases args; simp_all
  obtain ⟨rfl, rfl⟩ := trodVars_none hV
  obtain ⟨s, rfl, rfl, rfl, w0⟩ := open_string Tryd.underlying9 (hval 0 9 v0 rfl rfl) h0
  obtain ⟨n, rfl, rfl, rfl, w1⟩ := open_int Tryd.underlying3 (hval 1 3 v1 rfl rfl) h1
  clear hA0 hval0
  refine (walk_baseWraps s n W (tab_of_laid hL) w0 w1).mono fun e W' ⟨he, bel⟩ => ?_
  subst he
  exact ⟨_, rfl, _, _, _, [], _, [], hW', trodAll_mk1 (shut_bool Tryd.underlying4 _), (trodAll_cons_mk (shut_string Tryd.underlying9 w0) (trodAll_cons_mk (shut_int Tryd.underlying3 w1) trodAll_mk0)), rfl, bel.frame _, fun h => by cases h⟩
theorem over : Rows.baseWrapsRow.holds Tryd.pinned (OpenSpec.ofChange Rows.baseWrapsSpec) :=
  OpenClaim.holds_of_wide 4 Tryd.f4 rfl rfl rfl rfl rfl rfl rfl ⟨rfl, rfl, rfl, rfl, rfl⟩ rfl rfl rfl rfl rfl (by kernel_rfl) Tryd.func4 (by kernel_rfl)
    (of_decide_eq_true (by kernel_rfl)) (by unfold Func.isWrapper; first | (rw [if_pos (by decide +kernel)]; kernel_rfl) | (rw [if_neg (by decide +kernel)]; exact ⟨rfl, rfl⟩))
    (fun os started H enc _ => lifted os started H enc)
theorem proved : Rows.BaseWrapsCardSaid :=
  Claim7.holds_tied_plain_at .later [] [.data] true (true, "5bb2e1a3f14e205e315e892f3342b3fbd4d78f5da039db78b6bce9347f48fd58") false
    over (fun _ h => by cases h) (by kernel_rfl) (fun _ h => by cases h) baseWraps_row_tie rfl ⟨rfl, rfl⟩ (by kernel_rfl) rfl
    (fun f fn hf hfn => by
      obtain rfl : f = 4 := Option.some.inj ((show Tryd.prog.funcNamed "nuncio/nunciolaw04.BaseWraps" = some 4 by kernel_rfl).symm.trans hf) |>.symm
      obtain rfl : fn = Tryd.f4 := (Option.some.inj (Tryd.func4.symm.trans hfn)).symm
      exact ⟨by kernel_rfl, fun j t ht => by
        rw [Tryd.params4] at ht
        have hm : t ∈ [9, 3] := by simpa using Array.mem_of_getElem? ht
        have hall : ([9, 3].all fun u => !Tryd.prog.wantsStandIn u) = true := by kernel_rfl
        exact (show Tryd.prog.wantsStandIn t = false by simpa using List.all_eq_true.1 hall t hm)⟩)
    (by kernel_rfl)
end baseWrapsDone
end Go.Proofs.YtbkhgmehfgfmfaaDoor
