/- Law 13: a header value's main text and parameters agree with the reference. -/
import Derived.Test.YtdfflbpifpoogaaDoorHrb
import Derived.Test.YtdfflbpifpoogaaDoorHfr
import Derived.Test.YtdfflbpifpoogaaDoorTie
import Derived.Test.YtdfflbpifpoogaaDoorCards
import Derived.SevenTiedAt
set_option linter.unusedVariables false
set_option synthInstance.maxSize 4000
namespace Go.Proofs.YtdfflbpifpoogaaDoor
open Go.RowKit Nun
theorem loopL_len : ∀ (n : Nat) (l : List UInt8) (F : List Fld) (t : Bool) (o : List Fld × Bool), loopL n l F t = some o → o.1.length ≤ F.length + l.length
  | 0, l, F, t, o, h => by cases h
  | n + 1, l, F, t, o, h => by
    by_cases h0 : l.dropWhile blankC = []
    · rw [loopL_done n l F t h0] at h
      cases h; exact Nat.le_add_right _ _
    · rcases hs : signL 59 (l.dropWhile blankC) with _ | u
      · rw [loopL_nosign n l F t h0 hs] at h; cases h
      · rcases hp : paramL u with _ | ⟨p, r⟩
        · rw [loopL_noparam n l u F t h0 hs hp] at h; cases h
        · rw [loopL_step n l u r p F t _ h0 hs hp rfl] at h
          have h1 := loopL_len n r _ _ o h
          have h2 := (paramL_len hp).1
          have h3 := congrArg List.length (signL_len hs)
          have h4 := dropWhile_len blankC l
          rw [List.length_cons] at h3
          rw [List.length_append, List.length_singleton] at h1
          dsimp only at h2
          omega
theorem paramsL_len {l m : List UInt8} {F : List Fld} (h : paramsL l = .ok m F) : F.length ≤ l.length := by
  unfold paramsL at h
  rcases hr : loopL (l.length + 1) ((l.dropWhile blankC).dropWhile plainC) [] false with _ | ⟨o, t⟩
  · rw [hr] at h; cases h
  · rw [hr] at h
    have h1 := loopL_len _ _ _ _ _ hr
    have h2 := dropWhile_len plainC (l.dropWhile blankC)
    have h3 := dropWhile_len blankC l
    dsimp only at h
    split at h
    · cases h
    · split at h
      · cases h
      · cases h
        simp only [List.length_nil] at h1; omega
set_option maxHeartbeats 2000000 in
set_option maxRecDepth 100000 in
theorem walk_headParams (s : ByteArray) (w : World) (hm : MaxIs w) (hs : s.size ≤ maxLen) : Calls Tryd.prog 5 #[.string s] w (Ret (.bool true) w) := by
  have hs' := Lib.hid hs; clear hs
  go_enter Tryd.func5, Tryd.ntmps5
  go_wp2_with (go_at_call 8; refine (few13 s _ hs'.out).mono ?_; rintro e w1 ⟨t, rfl, ht, rfl⟩)
  have ht2 : t.size ≤ 10000 := by omega
  have hnil : ∀ w', Hid (FldRow (.slice none 0 0) [] w') := fun w' => Lib.hid ⟨none, 0, rfl, .inl rfl⟩
  rcases hV : paramsL t.data.toList with _ | _ | ⟨m, F⟩
  · have HV := Lib.hid hV; clear hV
    go_wp2_with (first | (go_at_call 14; refine (params_any t _ ht2 .form HV.out).mono ?_; rintro e w1 ⟨rfl, hb1⟩) | (go_at_call 15; refine (params_ref t _ ht2 .form HV.out).mono ?_; rintro e w2 ⟨rfl, hb2⟩) | (go_at_call 16; refine (same_pairs _ _ [] _ (by decide) (hnil _).out (hnil _).out).mono ?_; rintro e w3 ⟨rfl, hb3⟩) | (go_at_call 13; refine (awake13 _ (((hm.below hb1).below hb2).below hb3)).mono ?_; rintro e w4 ⟨rfl, hb4⟩))
    go_ret
    exact ⟨rfl, (by repeat (first | assumption | exact Below.refl _ _ | refine below_of ?_ (by assumption)))⟩
  · have HV := Lib.hid hV; clear hV
    go_wp2_with (first | (go_at_call 14; refine (params_any t _ ht2 .twice HV.out).mono ?_; rintro e w1 ⟨rfl, hb1⟩) | (go_at_call 15; refine (params_ref t _ ht2 .twice HV.out).mono ?_; rintro e w2 ⟨rfl, hb2⟩) | (go_at_call 16; refine (same_pairs _ _ [] _ (by decide) (hnil _).out (hnil _).out).mono ?_; rintro e w3 ⟨rfl, hb3⟩) | (go_at_call 13; refine (awake13 _ (((hm.below hb1).below hb2).below hb3)).mono ?_; rintro e w4 ⟨rfl, hb4⟩))
    go_ret
    exact ⟨rfl, (by repeat (first | assumption | exact Below.refl _ _ | refine below_of ?_ (by assumption)))⟩
  · have hFl := paramsL_len hV
    rw [show t.data.toList.length = t.size from rfl] at hFl
    have hF : F.length ≤ 1000000 := by omega
    have HV := Lib.hid hV; clear hV hFl
    go_wp2_with (first | (go_at_call 14; refine (params_any t _ ht2 (.ok m F) HV.out).mono ?_; rintro e w1 ⟨v, rfl, hown, hb1⟩; have hr1 := Lib.hid (fldRow_own hown); clear hown) | (go_at_call 15; refine (params_ref t _ ht2 (.ok m F) HV.out).mono ?_; rintro e w2 ⟨u, rfl, hown, hb2⟩; have hr2 := Lib.hid (fldRow_own hown); clear hown; have hr1' := Lib.hid (hr1.out.below hb2)) | (go_at_call 16; refine (same_pairs _ _ F _ hF hr1'.out hr2.out).mono ?_; rintro e w3 ⟨rfl, hb3⟩) | (go_at_call 13; refine (awake13 _ (((hm.below hb1).below hb2).below hb3)).mono ?_; rintro e w4 ⟨rfl, hb4⟩))
    go_ret
    exact ⟨rfl, (by repeat (first | assumption | exact Below.refl _ _ | refine below_of ?_ (by assumption)))⟩
open Go.ChangeShapes Go.WideShapes Go.ChangeAt
open Go.ChangeMaps (open_string shut_string)
namespace headParamsDone
theorem own : ownKnob Tryd.prog.godebug = none := by kernel_rfl
set_option maxRecDepth 100000 in
theorem lifted (os : Os) (started : os.Started) (H : Type) (enc : TypeId × Value → H) :
    ReturnsInHanded {} Tryd.checked os 5 .any (fun w args => (Rows.headParamsSpec.pre enc Tryd.prog Tryd.f5 [] false w args ∧ laidMetH Tryd.prog [("unicode/utf8.acceptRanges", Rows.laid_unicode_utf8_acceptRanges), ("unicode/utf8.first", Rows.laid_unicode_utf8_first)] w) ∧ sizedMet enc Tryd.prog Tryd.f5 (OpenSpec.ofChange Rows.headParamsSpec) false w args)
      (Rows.headParamsSpec.post enc Tryd.prog Tryd.f5 false true false false) := by
  refine returnsInHanded_of_change_and_shaped (C := Tryd.checked) (X := fun w _ => laidMetH Tryd.prog [("unicode/utf8.acceptRanges", Rows.laid_unicode_utf8_acceptRanges), ("unicode/utf8.first", Rows.laid_unicode_utf8_first)] w) (fun _ _ _ hh h => h.of_heap hh) own started (by kernel_rfl) Tryd.func5
    (ChangeSpec.witness_shaped (enc := enc) (C := Tryd.checked) (os := os) (X := fun w _ => laidMetH Tryd.prog [("unicode/utf8.acceptRanges", Rows.laid_unicode_utf8_acceptRanges), ("unicode/utf8.first", Rows.laid_unicode_utf8_first)] w) false (laidW os) #[.string ⟨#[]⟩] 8 rfl (World.shaped_of_RefB (by kernel_rfl) (by kernel_rfl)) (by kernel_rfl) (by kernel_rfl) (by kernel_rfl) (door_met os _)) ?_
  intro W base args ds gs before hval0 hW _ _ hL hsh _
  have hval : ∀ (j : Nat) t v, Tryd.f5.params[j]? = some t → args[j]? = some v → Value.okWide Tryd.prog W .any base t v := hval0
  have hW' := hW
  obtain ⟨p, q, hA0, hV, rfl, hfz, hnd⟩ := hW
  have hA : DataW.TrodAll enc Tryd.prog W 0 (fun _ => true) true Tryd.f5.params.toList args.toList ds p := hA0
  rw [Tryd.params5] at hA hval
  obtain ⟨v0, vs0, d0, ds0, p0, q0, hargs, rfl, rfl, h0, r0⟩ := trodAll_cons hA
  obtain ⟨rfl, rfl, rfl⟩ := trodAll_nil r0
  obtain rfl : args = #[v0] := by cases args; simp_all
  obtain ⟨rfl, rfl⟩ := trodVars_none hV
  obtain ⟨v, rfl, rfl, rfl, w0⟩ := open_string Tryd.underlying9 (hval 0 9 v0 rfl rfl) h0
  clear hA0 hval0
  refine (walk_headParams v W (max_of_shape hsh) w0).mono fun e W' ⟨he, bel⟩ => ?_
  subst he
  exact ⟨_, rfl, _, _, _, [], _, [], hW', trodAll_mk1 (shut_bool Tryd.underlying4 _), (trodAll_cons_mk (shut_string Tryd.underlying9 w0) trodAll_mk0), rfl, bel.frame _, fun h => by cases h⟩
theorem over : Rows.headParamsRow.holds Tryd.pinned (OpenSpec.ofChange Rows.headParamsSpec) :=
  OpenClaim.holds_of_wide 5 Tryd.f5 rfl rfl rfl rfl rfl rfl rfl ⟨rfl, rfl, rfl, rfl, rfl⟩ rfl rfl rfl rfl rfl (by kernel_rfl) Tryd.func5 (by kernel_rfl)
    (of_decide_eq_true (by kernel_rfl)) (by unfold Func.isWrapper; first | (rw [if_pos (by decide +kernel)]; kernel_rfl) | (rw [if_neg (by decide +kernel)]; exact ⟨rfl, rfl⟩))
    (fun os started H enc _ => lifted os started H enc)
theorem proved : Rows.HeadParamsCardSaid :=
  Claim7.holds_tied_plain_at .later [] [.data, .pinned] true (true, "85544a4ee0e1fef3f92d658d88eb15f15a7b50e4fda37eea8480a4f6b55f7dd8") false
    over (fun _ h => by cases h) (by kernel_rfl) (fun _ h => by cases h) headParams_row_tie rfl ⟨rfl, rfl⟩ (by kernel_rfl) rfl
    (fun f fn hf hfn => by
      obtain rfl : f = 5 := Option.some.inj ((show Tryd.prog.funcNamed "nuncio/nunciolaw13.HeadParams" = some 5 by kernel_rfl).symm.trans hf) |>.symm
      obtain rfl : fn = Tryd.f5 := (Option.some.inj (Tryd.func5.symm.trans hfn)).symm
      exact ⟨by kernel_rfl, fun j t ht => by
        rw [Tryd.params5] at ht
        have hm : t ∈ [9] := by simpa using Array.mem_of_getElem? ht
        have hall : ([9].all fun u => !Tryd.prog.wantsStandIn u) = true := by kernel_rfl
        exact (show Tryd.prog.wantsStandIn t = false by simpa using List.all_eq_true.1 hall t hm)⟩)
    (by kernel_rfl)
end headParamsDone
end Go.Proofs.YtdfflbpifpoogaaDoor
#print axioms Go.Proofs.YtdfflbpifpoogaaDoor.headParamsDone.proved
