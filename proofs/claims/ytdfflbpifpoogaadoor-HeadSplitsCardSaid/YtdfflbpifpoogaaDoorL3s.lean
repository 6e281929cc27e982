/- Law 13: Split agrees with the reference, whatever follows the header. -/
import Derived.Test.YtdfflbpifpoogaaDoorHit
import Derived.Test.YtdfflbpifpoogaaDoorHrb
import Derived.Test.YtdfflbpifpoogaaDoorHfr
import Derived.Test.YtdfflbpifpoogaaDoorTie
import Derived.Test.YtdfflbpifpoogaaDoorCards
import Derived.SevenTiedAt
set_option linter.unusedVariables false
set_option synthInstance.maxSize 4000
namespace Go.Proofs.YtdfflbpifpoogaaDoor
open Go.RowKit Nun
theorem split_of (s : ByteArray) (w : World) (hm : MaxIs w) (hs : s.size ≤ 10000) (V : Split) (h : splitL s.data.toList = V) : Calls Tryd.prog 9 #[.string s] w (splitV V w) := h ▸ split_any s w hm hs
set_option maxHeartbeats 4000000 in
set_option maxRecDepth 100000 in
theorem walk_headSplits (s more : ByteArray) (w : World) (hm : MaxIs w) (hs : s.size ≤ maxLen) (hmo : more.size ≤ maxLen) : Calls Tryd.prog 3 #[.string s, .string more] w (Ret (.bool true) w) := by
  have hs' := Lib.hid hs; have hm' := Lib.hid hmo; clear hs hmo
  go_enter Tryd.func3, Tryd.ntmps3
  go_wp2_with (first | (go_at_call 8; refine (few13 s _ hs'.out).mono ?_; rintro e w1 ⟨t, rfl, ht, rfl⟩; clear hs') | (go_at_call 8; refine (few13 more _ hm'.out).mono ?_; rintro e w1 ⟨m, rfl, hmm, rfl⟩; clear hm'))
  have ht2 : t.size ≤ 10000 := by omega
  have hnil : ∀ w', Hid (FldRow (.slice none 0 0) [] w') := fun w' => Lib.hid ⟨none, 0, rfl, .inl rfl⟩
  rcases hV : splitL t.data.toList with _ | _ | ⟨F, b⟩
  · have HV := Lib.hid hV; clear hV
    go_wp2_with (first | (go_at_call 9; refine (split_of t _ hm ht2 .form HV.out).mono ?_; rintro e w1 ⟨rfl, hb1⟩) | (go_at_call 10; refine (split_ref t _ ht2 .form HV.out).mono ?_; rintro e w2 ⟨rfl, hb2⟩) | (go_at_call 12; refine (its_any _ [] _ (by decide) (hnil _).out).mono ?_; rintro e w3 ⟨u, rfl, hown, hb3⟩; have hru := Lib.hid (fldRow_own hown); clear hown) | (go_at_call 11; refine (same_fields _ _ [] _ (by decide) hru.out (hnil _).out).mono ?_; rintro e w4 ⟨rfl, hb4⟩) | (go_at_call 13; refine (awake13 _ ((((hm.below hb1).below hb2).below hb3).below hb4)).mono ?_; rintro e w5 ⟨rfl, hb5⟩))
    go_ret
    exact ⟨rfl, (by repeat (first | assumption | exact Below.refl _ _ | refine below_of ?_ (by assumption)))⟩
  · have HV := Lib.hid hV; clear hV
    go_wp2_with (first | (go_at_call 9; refine (split_of t _ hm ht2 .long HV.out).mono ?_; rintro e w1 ⟨rfl, hb1⟩) | (go_at_call 10; refine (split_ref t _ ht2 .long HV.out).mono ?_; rintro e w2 ⟨rfl, hb2⟩) | (go_at_call 12; refine (its_any _ [] _ (by decide) (hnil _).out).mono ?_; rintro e w3 ⟨u, rfl, hown, hb3⟩; have hru := Lib.hid (fldRow_own hown); clear hown) | (go_at_call 11; refine (same_fields _ _ [] _ (by decide) hru.out (hnil _).out).mono ?_; rintro e w4 ⟨rfl, hb4⟩) | (go_at_call 13; refine (awake13 _ ((((hm.below hb1).below hb2).below hb3).below hb4)).mono ?_; rintro e w5 ⟨rfl, hb5⟩))
    go_ret
    exact ⟨rfl, (by repeat (first | assumption | exact Below.refl _ _ | refine below_of ?_ (by assumption)))⟩
  · have hFl := splitL_len hV
    rw [show t.data.toList.length = t.size from rfl] at hFl
    have hF : F.length ≤ 1000000 := by omega
    obtain ⟨hbl, hmore⟩ := split_more hV
    rw [show t.data.toList.length = t.size from rfl] at hbl
    have hV2 : splitL (t.extract 0 b ++ m).data.toList = .ok F b := by
      rw [ext_take, show ((⟨(t.data.toList.take b).toArray⟩ : ByteArray) ++ m).data.toList = t.data.toList.take b ++ m.data.toList by simp]
      exact hmore _
    have hz2 : (t.extract 0 b ++ m).size ≤ 10000 := by rw [ByteArray.size_append, ByteArray.size_extract]; omega
    have HV := Lib.hid hV; have HV2 := Lib.hid hV2; have HZ2 := Lib.hid hz2; clear hV hFl hV2 hmore hz2
    go_wp2_with (go_at_call 9; refine (split_of t _ hm ht2 (.ok F b) HV.out).mono ?_; rintro e w1 ⟨v, rfl, hown, hb1⟩; have hr1 := Lib.hid (fldRow_own hown); clear hown)
    go_wp2_with (go_at_call 10; refine (split_ref t _ ht2 (.ok F b) HV.out).mono ?_; rintro e w2 ⟨v2, rfl, hown, hb2⟩; have hr2 := Lib.hid (fldRow_own hown); clear hown; have hr1' := Lib.hid (hr1.out.below hb2); clear hr1)
    go_wp2_with (go_at_call 12; refine (its_any _ F _ hF hr1'.out).mono ?_; rintro e w3 ⟨u, rfl, hown, hb3⟩; have hru := Lib.hid (fldRow_own hown); clear hown; have hr2' := Lib.hid (hr2.out.below hb3); clear hr2 hr1')
    go_wp2_with (go_at_call 11; refine (same_fields _ _ F _ hF hru.out hr2'.out).mono ?_; rintro e w4 ⟨rfl, hb4⟩; have hr3 := Lib.hid (hr2'.out.below hb4); clear hr2' hru)
    go_wp2_with (go_at_call 9; refine (split_of _ _ ((((hm.below hb1).below hb2).below hb3).below hb4) HZ2.out (.ok F b) HV2.out).mono ?_; rintro e w5 ⟨v5, rfl, hown, hb5⟩; have hr5 := Lib.hid (fldRow_own hown); clear hown; have hr4 := Lib.hid (hr3.out.below hb5); clear hr3)
    go_wp2_with (go_at_call 12; refine (its_any _ F _ hF hr5.out).mono ?_; rintro e w6 ⟨u6, rfl, hown, hb6⟩; have hr6 := Lib.hid (fldRow_own hown); clear hown; have hr7 := Lib.hid (hr4.out.below hb6); clear hr4 hr5)
    go_wp2_with (go_at_call 11; refine (same_fields _ _ F _ hF hr6.out hr7.out).mono ?_; rintro e w7 ⟨rfl, hb7⟩; clear hr6 hr7)
    go_wp2_with (go_at_call 13; refine (awake13 _ (((((((hm.below hb1).below hb2).below hb3).below hb4).below hb5).below hb6).below hb7)).mono ?_; rintro e w8 ⟨rfl, hb8⟩)
    go_ret
    exact ⟨rfl, (by repeat (first | assumption | exact Below.refl _ _ | refine below_of ?_ (by assumption)))⟩
open Go.ChangeShapes Go.WideShapes Go.ChangeAt
open Go.ChangeMaps (open_string shut_string)
namespace headSplitsDone
theorem own : ownKnob Tryd.prog.godebug = none := by kernel_rfl
set_option maxRecDepth 100000 in
theorem lifted (os : Os) (started : os.Started) (H : Type) (enc : TypeId × Value → H) :
    ReturnsInHanded {} Tryd.checked os 3 .any (fun w args => (Rows.headSplitsSpec.pre enc Tryd.prog Tryd.f3 [] false w args ∧ laidMetH Tryd.prog [("unicode/utf8.acceptRanges", Rows.laid_unicode_utf8_acceptRanges), ("unicode/utf8.first", Rows.laid_unicode_utf8_first)] w) ∧ sizedMet enc Tryd.prog Tryd.f3 (OpenSpec.ofChange Rows.headSplitsSpec) false w args)
      (Rows.headSplitsSpec.post enc Tryd.prog Tryd.f3 false true false false) := by
  refine returnsInHanded_of_change_and_shaped (C := Tryd.checked) (X := fun w _ => laidMetH Tryd.prog [("unicode/utf8.acceptRanges", Rows.laid_unicode_utf8_acceptRanges), ("unicode/utf8.first", Rows.laid_unicode_utf8_first)] w) (fun _ _ _ hh h => h.of_heap hh) own started (by kernel_rfl) Tryd.func3
    (ChangeSpec.witness_shaped (enc := enc) (C := Tryd.checked) (os := os) (X := fun w _ => laidMetH Tryd.prog [("unicode/utf8.acceptRanges", Rows.laid_unicode_utf8_acceptRanges), ("unicode/utf8.first", Rows.laid_unicode_utf8_first)] w) false (laidW os) #[.string ⟨#[]⟩, .string ⟨#[]⟩] 8 rfl (World.shaped_of_RefB (by kernel_rfl) (by kernel_rfl)) (by kernel_rfl) (by kernel_rfl) (by kernel_rfl) (door_met os _)) ?_
  intro W base args ds gs before hval0 hW _ _ hL hsh _
  have hval : ∀ (j : Nat) t v, Tryd.f3.params[j]? = some t → args[j]? = some v → Value.okWide Tryd.prog W .any base t v := hval0
  have hW' := hW
  obtain ⟨p, q, hA0, hV, rfl, hfz, hnd⟩ := hW
  have hA : DataW.TrodAll enc Tryd.prog W 0 (fun _ => true) true Tryd.f3.params.toList args.toList ds p := hA0
  rw [Tryd.params3] at hA hval
  obtain ⟨v0, vs0, d0, ds0, p0, q0, hargs, rfl, rfl, h0, r0⟩ := trodAll_cons hA
  obtain ⟨v1, vs1, d1, ds1, p1, q1, rfl, rfl, rfl, h1, r1⟩ := trodAll_cons r0
  obtain ⟨rfl, rfl, rfl⟩ := trodAll_nil r1
  obtain rfl : args = #[v0, v1] := by cases args; simp_all
  obtain ⟨rfl, rfl⟩ := trodVars_none hV
  obtain ⟨s, rfl, rfl, rfl, w0⟩ := open_string Tryd.underlying9 (hval 0 9 v0 rfl rfl) h0
  obtain ⟨more, rfl, rfl, rfl, w1⟩ := open_string Tryd.underlying9 (hval 1 9 v1 rfl rfl) h1
  clear hA0 hval0
  refine (walk_headSplits s more W (max_of_shape hsh) w0 w1).mono fun e W' ⟨he, bel⟩ => ?_
  subst he
  exact ⟨_, rfl, _, _, _, [], _, [], hW', trodAll_mk1 (shut_bool Tryd.underlying4 _), (trodAll_cons_mk (shut_string Tryd.underlying9 w0) (trodAll_cons_mk (shut_string Tryd.underlying9 w1) trodAll_mk0)), rfl, bel.frame _, fun h => by cases h⟩
theorem over : Rows.headSplitsRow.holds Tryd.pinned (OpenSpec.ofChange Rows.headSplitsSpec) :=
  OpenClaim.holds_of_wide 3 Tryd.f3 rfl rfl rfl rfl rfl rfl rfl ⟨rfl, rfl, rfl, rfl, rfl⟩ rfl rfl rfl rfl rfl (by kernel_rfl) Tryd.func3 (by kernel_rfl)
    (of_decide_eq_true (by kernel_rfl)) (by unfold Func.isWrapper; first | (rw [if_pos (by decide +kernel)]; kernel_rfl) | (rw [if_neg (by decide +kernel)]; exact ⟨rfl, rfl⟩))
    (fun os started H enc _ => lifted os started H enc)
theorem proved : Rows.HeadSplitsCardSaid :=
  Claim7.holds_tied_plain_at .later [] [.data, .pinned] true (true, "85544a4ee0e1fef3f92d658d88eb15f15a7b50e4fda37eea8480a4f6b55f7dd8") false
    over (fun _ h => by cases h) (by kernel_rfl) (fun _ h => by cases h) headSplits_row_tie rfl ⟨rfl, rfl⟩ (by kernel_rfl) rfl
    (fun f fn hf hfn => by
      obtain rfl : f = 3 := Option.some.inj ((show Tryd.prog.funcNamed "nuncio/nunciolaw13.HeadSplits" = some 3 by kernel_rfl).symm.trans hf) |>.symm
      obtain rfl : fn = Tryd.f3 := (Option.some.inj (Tryd.func3.symm.trans hfn)).symm
      exact ⟨by kernel_rfl, fun j t ht => by
        rw [Tryd.params3] at ht
        have hm : t ∈ [9, 9] := by simpa using Array.mem_of_getElem? ht
        have hall : ([9, 9].all fun u => !Tryd.prog.wantsStandIn u) = true := by kernel_rfl
        exact (show Tryd.prog.wantsStandIn t = false by simpa using List.all_eq_true.1 hall t hm)⟩)
    (by kernel_rfl)
end headSplitsDone
end Go.Proofs.YtdfflbpifpoogaaDoor
#print axioms Go.Proofs.YtdfflbpifpoogaaDoor.headSplitsDone.proved
