/- Layer 4, base64: Inner agrees with the reference and stands at the stated place of the code of every text around: under the tied condition that the table holds the digits. -/
import Derived.Test.YtbkhgmehfgfmfaaDoorL04
import Derived.Test.YtbkhgmehfgfmfaaDoorTie
import Derived.Test.YtbkhgmehfgfmfaaDoorCards
import Derived.SevenTiedAt
set_option linter.unusedVariables false
set_option synthInstance.maxSize 4000
namespace Nun
theorem stands_at {E I t : List UInt8} {k : Nat} (h : E.drop k = I ++ t) : (I ≠ [] → k + I.length ≤ E.length) ∧ (E.drop k).take I.length = I := by
  constructor
  · intro hI
    have h1 := congrArg List.length h
    rw [List.length_drop, List.length_append] at h1
    have := List.length_pos_iff.2 hI
    omega
  · rw [h, List.take_left']; rfl
end Nun
namespace Go.Proofs.YtbkhgmehfgfmfaaDoor
open Go.RowKit Nun
set_option maxHeartbeats 2000000 in
theorem walk_baseInners (a b c : ByteArray) (n : Int) (w : World) (hT : Tab w) (ha : a.size ≤ maxLen) (hb : b.size ≤ maxLen) (hc : c.size ≤ maxLen) (hn : (Lit.int .i64 n).wf = true) : Calls Tryd.prog 5 #[.string a, .string b, .string c, .int .i64 n] w (Ret (.bool true) w) := by
  have ha' := Lib.hid ha; have hb' := Lib.hid hb; have hc' := Lib.hid hc; clear ha hb hc hn
  go_enter Tryd.func5, Tryd.ntmps5
  go_wp2_with (go_at_call 7; first | ((with_reducible refine (few04 a _ ha'.out).mono ?_); rintro e w1 ⟨x, rfl, hx, rfl⟩) | ((with_reducible refine (few04 b _ hb'.out).mono ?_); rintro e w1 ⟨y, rfl, hy, rfl⟩) | ((with_reducible refine (few04 c _ hc'.out).mono ?_); rintro e w1 ⟨z, rfl, hz, rfl⟩))
  obtain ⟨I, hI⟩ : ∃ I, innerI ((x.size : Int) % 3) y.data.toList = I := ⟨_, rfl⟩
  obtain ⟨V, hV⟩ : ∃ V, innerI n y.data.toList = V := ⟨_, rfl⟩
  obtain ⟨E, hE⟩ : ∃ E, enc64 (x ++ y ++ z).data.toList = E := ⟨_, rfl⟩
  obtain ⟨k, hk⟩ : ∃ k : Nat, (4 * x.size + 2) / 3 = k := ⟨_, rfl⟩
  have hIL : innerL (x.data.toList.length % 3) y.data.toList = I := by
    rw [← hI, len_data, innerI, if_neg (by omega)]; congr 1
  have hst : I ≠ [] → k + I.length ≤ E.length ∧ (E.drop k).take I.length = I := by
    intro hne
    obtain ⟨t, ht⟩ := inner_stands x.data.toList y.data.toList z.data.toList (by rw [hIL]; exact hne)
    rw [hIL, len_data, hk] at ht
    have hE' : enc64 (x.data.toList ++ y.data.toList ++ z.data.toList) = E := by rw [← hE, ByteArray.toList_data_append, ByteArray.toList_data_append]
    rw [hE'] at ht
    exact ⟨(stands_at ht).1 hne, (stands_at ht).2⟩
  have hEl : E.length ≤ 3000 := by
    have := enc64_len _ (x ++ y ++ z).data.toList (Nat.le_refl _)
    rw [hE, len_data, ByteArray.size_append, ByteArray.size_append] at this; omega
  have hat : (4 * (x.size : Int) + 2) / 3 = (k : Int) := by omega
  have HI := Lib.hid hI; have HV := Lib.hid hV; have HE := Lib.hid hE
  clear hI hV hE hIL hk
  have hksz : k ≤ 300 := by omega
  have hIs : (ByteArray.mk I.toArray).size = I.length := rfl
  have hEs : (ByteArray.mk E.toArray).size = E.length := rfl
  by_cases hne : I = []
  · subst hne
    clear hst
    go_wp2_with (first | (go_at_call 15; first | ((with_reducible refine (inner_of y _ _ HI.out _ hT (by omega)).mono ?_); rintro e w1 ⟨rfl, hb1⟩; have hT := hT.kept hb1) | ((with_reducible refine (inner_of y _ _ HV.out _ hT (by omega)).mono ?_); rintro e w2 ⟨rfl, hb2⟩; have hT := hT.kept hb2)) | (go_at_call 16; first | ((with_reducible refine (innerr_of y _ _ HI.out _ (by omega)).mono ?_); rintro e w3 ⟨rfl, hb3⟩; have hT := hT.kept hb3) | ((with_reducible refine (innerr_of y _ _ HV.out _ (by omega)).mono ?_); rintro e w4 ⟨rfl, hb4⟩; have hT := hT.kept hb4)) | (go_at_call 8; refine (enc_of64 _ _ HE.out _ hT (by rw [ByteArray.size_append, ByteArray.size_append]; omega)).mono ?_; rintro e w5 ⟨rfl, hb5⟩; have hT := hT.kept hb5) | (go_at_call 12; refine (awake04 _ hT).mono ?_; rintro e w6 ⟨rfl, hb6⟩))
    go_ret
    exact ⟨rfl, (by repeat (first | assumption | exact Below.refl _ _ | refine below_of ?_ (by assumption)))⟩
  · obtain ⟨hle, htk⟩ := hst hne
    have hpos : 0 < I.length := List.length_pos_iff.2 hne
    have hsl : (ByteArray.mk E.toArray).extract k (k + I.length) = ⟨I.toArray⟩ := by
      apply ByteArray.ext; apply Array.ext'
      rw [Lib.extract_data]
      simpa using htk
    have hl0 : ((I.length : Int) == 0) = false := by rw [beq_eq_false_iff_ne]; omega
    clear hst hne htk
    go_wp2_with (first | (go_at_call 15; first | ((with_reducible refine (inner_of y _ _ HI.out _ hT (by omega)).mono ?_); rintro e w1 ⟨rfl, hb1⟩; have hT := hT.kept hb1) | ((with_reducible refine (inner_of y _ _ HV.out _ hT (by omega)).mono ?_); rintro e w2 ⟨rfl, hb2⟩; have hT := hT.kept hb2)) | (go_at_call 16; first | ((with_reducible refine (innerr_of y _ _ HI.out _ (by omega)).mono ?_); rintro e w3 ⟨rfl, hb3⟩; have hT := hT.kept hb3) | ((with_reducible refine (innerr_of y _ _ HV.out _ (by omega)).mono ?_); rintro e w4 ⟨rfl, hb4⟩; have hT := hT.kept hb4)) | (go_at_call 8; refine (enc_of64 _ _ HE.out _ hT (by rw [ByteArray.size_append, ByteArray.size_append]; omega)).mono ?_; rintro e w5 ⟨rfl, hb5⟩; have hT := hT.kept hb5) | (go_at_call 12; refine (awake04 _ hT).mono ?_; rintro e w6 ⟨rfl, hb6⟩))
    go_ret
    exact ⟨rfl, (by repeat (first | assumption | exact Below.refl _ _ | refine below_of ?_ (by assumption)))⟩
open Go.ChangeShapes Go.WideShapes Go.ChangeAt
open Go.ChangeMaps (open_string shut_string)
namespace baseInnersDone
theorem own : ownKnob Tryd.prog.godebug = none := by kernel_rfl
set_option maxRecDepth 100000 in
theorem lifted (os : Os) (started : os.Started) (H : Type) (enc : TypeId × Value → H) :
    ReturnsInHanded {} Tryd.checked os 5 .any (fun w args => (Rows.baseInnersSpec.pre enc Tryd.prog Tryd.f5 [] false w args ∧ laidMetH Tryd.prog [("nuncio/b64.table", Rows.laid_nuncio_b64_table)] w) ∧ sizedMet enc Tryd.prog Tryd.f5 (OpenSpec.ofChange Rows.baseInnersSpec) false w args)
      (Rows.baseInnersSpec.post enc Tryd.prog Tryd.f5 false true false false) := by
  refine returnsInHanded_of_change_and (C := Tryd.checked) (X := fun w _ => laidMetH Tryd.prog [("nuncio/b64.table", Rows.laid_nuncio_b64_table)] w) (fun _ _ _ hh h => h.of_heap hh) own started (by kernel_rfl) Tryd.func5
    (ChangeSpec.witness_shaped (enc := enc) (C := Tryd.checked) (os := os) (X := fun w _ => laidMetH Tryd.prog [("nuncio/b64.table", Rows.laid_nuncio_b64_table)] w) false (World.doorLaid Tryd.prog 400 os) #[.string ⟨#[]⟩, .string ⟨#[]⟩, .string ⟨#[]⟩, .int .i64 0] 8 rfl (World.shaped_of_RefB (by kernel_rfl) (by kernel_rfl)) (by kernel_rfl) (by kernel_rfl) (by kernel_rfl) (door_met os _)) ?_
  intro W base args ds gs before hval0 hW _ _ hL _
  have hval : ∀ (j : Nat) t v, Tryd.f5.params[j]? = some t → args[j]? = some v → Value.okWide Tryd.prog W .any base t v := hval0
  have hW' := hW
  obtain ⟨p, q, hA0, hV, rfl, hfz, hnd⟩ := hW
  have hA : DataW.TrodAll enc Tryd.prog W 0 (fun _ => true) true Tryd.f5.params.toList args.toList ds p := hA0
  rw [Tryd.params5] at hA hval
  obtain ⟨v0, vs0, d0, ds0, p0, q0, hargs, rfl, rfl, h0, r0⟩ := trodAll_cons hA
  obtain ⟨v1, vs1, d1, ds1, p1, q1, rfl, rfl, rfl, h1, r1⟩ := trodAll_cons r0
  obtain ⟨v2, vs2, d2, ds2, p2, q2, rfl, rfl, rfl, h2, r2⟩ := trodAll_cons r1
  obtain ⟨v3, vs3, d3, ds3, p3, q3, rfl, rfl, rfl, h3, r3⟩ := trodAll_cons r2
  obtain ⟨rfl, rfl, rfl⟩ := trodAll_nil r3
  obtain rfl : args = #[v0, v1, v2, v3] := by cases args; simp_all
  obtain ⟨rfl, rfl⟩ := trodVars_none hV
  obtain ⟨a, rfl, rfl, rfl, w0⟩ := open_string Tryd.underlying9 (hval 0 9 v0 rfl rfl) h0
  obtain ⟨b, rfl, rfl, rfl, w1⟩ := open_string Tryd.underlying9 (hval 1 9 v1 rfl rfl) h1
  obtain ⟨c, rfl, rfl, rfl, w2⟩ := open_string Tryd.underlying9 (hval 2 9 v2 rfl rfl) h2
  obtain ⟨n, rfl, rfl, rfl, w3⟩ := open_int Tryd.underlying3 (hval 3 3 v3 rfl rfl) h3
  clear hA0 hval0
  refine (walk_baseInners a b c n W (tab_of_laid hL) w0 w1 w2 w3).mono fun e W' ⟨he, bel⟩ => ?_
  subst he
  exact ⟨_, rfl, _, _, _, [], _, [], hW', trodAll_mk1 (shut_bool Tryd.underlying4 _), (trodAll_cons_mk (shut_string Tryd.underlying9 w0) (trodAll_cons_mk (shut_string Tryd.underlying9 w1) (trodAll_cons_mk (shut_string Tryd.underlying9 w2) (trodAll_cons_mk (shut_int Tryd.underlying3 w3) trodAll_mk0)))), rfl, bel.frame _, fun h => by cases h⟩
theorem over : Rows.baseInnersRow.holds Tryd.pinned (OpenSpec.ofChange Rows.baseInnersSpec) :=
  OpenClaim.holds_of_wide 5 Tryd.f5 rfl rfl rfl rfl rfl rfl rfl ⟨rfl, rfl, rfl, rfl, rfl⟩ rfl rfl rfl rfl rfl (by kernel_rfl) Tryd.func5 (by kernel_rfl)
    (of_decide_eq_true (by kernel_rfl)) (by unfold Func.isWrapper; first | (rw [if_pos (by decide +kernel)]; kernel_rfl) | (rw [if_neg (by decide +kernel)]; exact ⟨rfl, rfl⟩))
    (fun os started H enc _ => lifted os started H enc)
theorem proved : Rows.BaseInnersCardSaid :=
  Claim7.holds_tied_plain_at .later [] [.data] true (true, "5bb2e1a3f14e205e315e892f3342b3fbd4d78f5da039db78b6bce9347f48fd58") false
    over (fun _ h => by cases h) (by kernel_rfl) (fun _ h => by cases h) baseInners_row_tie rfl ⟨rfl, rfl⟩ (by kernel_rfl) rfl
    (fun f fn hf hfn => by
      obtain rfl : f = 5 := Option.some.inj ((show Tryd.prog.funcNamed "nuncio/nunciolaw04.BaseInners" = some 5 by kernel_rfl).symm.trans hf) |>.symm
      obtain rfl : fn = Tryd.f5 := (Option.some.inj (Tryd.func5.symm.trans hfn)).symm
      exact ⟨by kernel_rfl, fun j t ht => by
        rw [Tryd.params5] at ht
        have hm : t ∈ [9, 9, 9, 3] := by simpa using Array.mem_of_getElem? ht
        have hall : ([9, 9, 9, 3].all fun u => !Tryd.prog.wantsStandIn u) = true := by kernel_rfl
        exact (show Tryd.prog.wantsStandIn t = false by simpa using List.all_eq_true.1 hall t hm)⟩)
    (by kernel_rfl)
end baseInnersDone
end Go.Proofs.YtbkhgmehfgfmfaaDoor
