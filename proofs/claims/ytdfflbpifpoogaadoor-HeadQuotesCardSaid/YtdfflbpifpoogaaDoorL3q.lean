/- Law 13: a quoted string stays one parameter value. -/
import Derived.Test.YtdfflbpifpoogaaDoorHqq
import Derived.Test.YtdfflbpifpoogaaDoorHrb
import Derived.Test.YtdfflbpifpoogaaDoorHfr
import Derived.Test.YtdfflbpifpoogaaDoorTie
import Derived.Test.YtdfflbpifpoogaaDoorCards
import Derived.SevenTiedAt
set_option linter.unusedVariables false
set_option synthInstance.maxSize 4000
namespace Nun
open Go Go.RowKit
theorem fldRow_two (w : World) (t : TypeId) (p q : Fld) : FldRow (.slice (some ⟨w.heap.size, 0, none⟩) 2 2) [p, q] (w.alloc (.cells #[.string ⟨p.1.toArray⟩, .string ⟨p.2.toArray⟩, .string ⟨q.1.toArray⟩, .string ⟨q.2.toArray⟩] t)) := by
  refine ⟨_, _, rfl, .inr ⟨_, rfl, Nat.le_refl _, by simp, fun j hj => ?_⟩⟩
  have hrow : (w.alloc (.cells #[.string ⟨p.1.toArray⟩, .string ⟨p.2.toArray⟩, .string ⟨q.1.toArray⟩, .string ⟨q.2.toArray⟩] t)).heap[w.heap.size]? = some (.cells #[.string ⟨p.1.toArray⟩, .string ⟨p.2.toArray⟩, .string ⟨q.1.toArray⟩, .string ⟨q.2.toArray⟩] t (0, 0)) := heap_alloc_new w _
  rw [cell_of_row _ _ _ _ _ _ hrow, cell_of_row _ _ _ _ _ _ hrow]
  match j, hj with
  | 0, _ => exact ⟨rfl, rfl⟩
  | 1, _ => exact ⟨rfl, rfl⟩
end Nun
namespace Go.Proofs.YtdfflbpifpoogaaDoor
open Go.RowKit Nun
theorem quote_of (s : ByteArray) (w : World) (hs : s.size ≤ 1000000) (Q : ByteArray) (hQ : quoteR s.data.toList = Q.data.toList) : Calls Tryd.prog 17 #[.string s] w (Same (.string Q) w) := by
  have h := quote_ref s w hs
  rw [hQ] at h
  exact h
def shownOf (c : UInt8) : UInt8 := 32 + c % 95
theorem shown_int : ∀ c : UInt8, (32 + (c.toNat : Int) % 95) = ((shownOf c).toNat : Int) := by decide +kernel
theorem shown_le : ∀ c : UInt8, ((shownOf c).toNat : Int) ≤ 255 ∧ (0 : Int) ≤ ((shownOf c).toNat : Int) := by decide +kernel
set_option maxHeartbeats 4000000 in
set_option maxRecDepth 100000 in
theorem walk_headQuotes (s : ByteArray) (w : World) (hm : MaxIs w) (hs : s.size ≤ maxLen) : Calls Tryd.prog 6 #[.string s] w (Ret (.bool true) w) := by
  unfold maxLen at hs
  go_enter Tryd.func6, Tryd.ntmps6
  go_wp2
  go_loopw [3, 4] (fun v i wr => ∃ k : Nat, i = .int .i64 k ∧ k ≤ s.size ∧ k ≤ 200 ∧ OwnB w.heap.size 5 v ((s.data.toList.take k).map shownOf) wr ∧ Below w.heap.size w wr) (fun _ i _ => s.size - (intOf i).toNat)
  case atStart => exact ⟨0, rfl, Nat.zero_le _, by omega, OwnB.made w (Nat.le_refl _) 0 _ rfl (by decide), (Below.refl _ _).alloc (Nat.le_refl _) _⟩
  case round =>
    rename_i u3 u4
    obtain ⟨k, rfl, hk, hk2, hown, hbel⟩ := hrel
    by_cases hlt : k < s.size ∧ k < 200
    · obtain ⟨h1, h2⟩ := hlt
      have hst : s.data.toList.take (k + 1) = s.data.toList.take k ++ [s[k]] := by
        rw [List.take_succ_eq_append_getElem (by simpa using h1)]; rfl
      have hlen : (List.map shownOf (s.data.toList.take k)).length = k := by rw [List.length_map, List.length_take, show s.data.toList.length = s.size from rfl]; omega
      obtain ⟨L, hL⟩ : ∃ L, List.map shownOf (s.data.toList.take k) = L := ⟨_, rfl⟩
      rw [hL] at hown hlen
      generalize hc : s[k] = c at *
      have hsh := shown_int c
      have HST := Lib.hid hst; have HL := Lib.hid hL
      have hwb : w.heap.size ≤ wr.heap.size := hbel.size
      clear hst hL
      have h2' : (k : Int) < 200 := by omega
      go_wp2_with (at_builtin; refine pushb (by rfl) _ _ _ (by rfl) 5 Tryd.underlying35 infoByte w.heap.size wr _ _ (by rfl) hown (shownOf c) (by rfl) (by omega) hbel.size ?_; intro g cap w1 hg hown1 hgr hb1 hsz1)
      go_roundw
      case rel => exact ⟨k + 1, by go_num, by omega, by omega, by have h := hown1; rw [hlen] at h; rw [HST.out, List.map_append, HL.out]; exact h, hbel.trans hb1⟩
      case measure => simp [intOf]; omega
    · have hlen : ((s.data.toList.take k).map shownOf).length ≤ 200 := by rw [List.length_map, List.length_take]; omega
      have hall : ∀ c ∈ (s.data.toList.take k).map shownOf, 32 ≤ c ∧ c ≤ 126 := by
        intro c hc
        obtain ⟨d, _, rfl⟩ := List.mem_map.1 hc
        exact shown_byte d
      obtain ⟨L, hL⟩ : ∃ L, List.map shownOf (s.data.toList.take k) = L := ⟨_, rfl⟩
      rw [hL] at hown hlen hall
      clear hL
      have hpq := params_quote L hall
      have HQ : Hid (quoteR (⟨L.toArray⟩ : ByteArray).data.toList = (⟨(quoteR L).toArray⟩ : ByteArray).data.toList) := Lib.hid rfl
      have hql : (⟨(quoteR L).toArray⟩ : ByteArray).size ≤ 402 := by
        have h1 := escL_len L
        show (quoteR L).length ≤ 402
        simp [quoteR]; omega
      obtain ⟨Q, hQ⟩ : ∃ Q : ByteArray, (⟨(quoteR L).toArray⟩ : ByteArray) = Q := ⟨_, rfl⟩
      have hQl : Q.data.toList = quoteR L := by rw [← hQ]
      rw [hQ] at HQ hql
      have hcat : (⟨#[116, 101, 120, 116, 47, 112, 108, 97, 105, 110, 59, 32, 110, 97, 109, 101, 61]⟩ ++ Q ++ ⟨#[32, 59, 32, 120, 61, 121]⟩ : ByteArray).data.toList = [116, 101, 120, 116, 47, 112, 108, 97, 105, 110, 59, 32, 110, 97, 109, 101, 61] ++ quoteR L ++ [32, 59, 32, 120, 61, 121] := by
        simp [hQl]
      rw [← hcat] at hpq
      have hcz : (⟨#[116, 101, 120, 116, 47, 112, 108, 97, 105, 110, 59, 32, 110, 97, 109, 101, 61]⟩ ++ Q ++ ⟨#[32, 59, 32, 120, 61, 121]⟩ : ByteArray).size ≤ 10000 := by
        have h1 : (⟨#[116, 101, 120, 116, 47, 112, 108, 97, 105, 110, 59, 32, 110, 97, 109, 101, 61]⟩ : ByteArray).size = 17 := rfl
        have h2 : (⟨#[32, 59, 32, 120, 61, 121]⟩ : ByteArray).size = 6 := rfl
        rw [ByteArray.size_append, ByteArray.size_append, h1, h2]; omega
      have kc := conv_own (P := Tryd.prog) Tryd.underlying35 Tryd.underlying5 Tryd.underlying9 hown
      have HPQ := Lib.hid hpq; have HCZ := Lib.hid hcz; have HO := Lib.hid hown
      have hBz : (⟨L.toArray⟩ : ByteArray).size ≤ 1000000 := by show L.length ≤ _; omega
      have HBZ := Lib.hid hBz
      obtain ⟨B, hB⟩ : ∃ B : ByteArray, (⟨L.toArray⟩ : ByteArray) = B := ⟨_, rfl⟩
      rw [hB] at kc HQ HBZ
      have HB := Lib.hid hB
      clear hQ hQl hcat hpq hcz hall hBz hown hB
      have hlt' : ((k : Int) < (s.size : Int)) = False ∨ (((k : Int) < (s.size : Int)) = True ∧ ((k : Int) < 200) = False) := by
        by_cases h : k < s.size
        · right; exact ⟨by simp; omega, by simp; omega⟩
        · left; simp; omega
      have hbelw := hbel.size
      rcases hlt' with hz1 | ⟨hz1, hz2⟩
      all_goals
        go_wp2_with (go_at_call 17; refine (quote_of _ _ HBZ.out Q HQ.out).mono ?_; rintro e w2 ⟨rfl, rfl⟩)
        go_wp2_with (go_at_call 14; refine (params_any _ _ HCZ.out _ HPQ.out).mono ?_; rintro e w2 ⟨v, rfl, hown2, hb2⟩; have kc2 := conv_own (P := Tryd.prog) Tryd.underlying35 Tryd.underlying5 Tryd.underlying9 (OwnB.kept HO.out hb2); rw [HB.out] at kc2; have hr2 := Lib.hid (fldRow_own hown2); clear hown2)
        go_wp2_with (go_at_call 16; refine (same_pairs _ _ [([110, 97, 109, 101], L), ([120], [121])] _ (by simp) (hr2.out.below ((Below.refl _ w2).alloc (Nat.le_refl _) _)) (by rw [← HB.out]; exact fldRow_two w2 _ _ _)).mono ?_; rintro e w3 ⟨rfl, hb3⟩)
        go_wp2_with (go_at_call 13; refine (awake13 _ ((((hm.below hbel).below hb2).below ((Below.refl _ w2).alloc (Nat.le_refl _) _)).below hb3)).mono ?_; rintro e w4 ⟨rfl, hb4⟩)
        go_ret
        exact ⟨rfl, ((hbel.trans (hb2.mono hbel.size)).trans (((Below.refl _ w2).alloc (Nat.le_refl _) _).mono (Nat.le_trans hbel.size hb2.size))).trans ((hb3.mono (by have := hb2.size; simp; omega)).trans (hb4.mono (by have := hb2.size; have := hb3.size; simp at this; omega)))⟩
open Go.ChangeShapes Go.WideShapes Go.ChangeAt
open Go.ChangeMaps (open_string shut_string)
namespace headQuotesDone
theorem own : ownKnob Tryd.prog.godebug = none := by kernel_rfl
set_option maxRecDepth 100000 in
theorem lifted (os : Os) (started : os.Started) (H : Type) (enc : TypeId × Value → H) :
    ReturnsInHanded {} Tryd.checked os 6 .any (fun w args => (Rows.headQuotesSpec.pre enc Tryd.prog Tryd.f6 [] false w args ∧ laidMetH Tryd.prog [("unicode/utf8.acceptRanges", Rows.laid_unicode_utf8_acceptRanges), ("unicode/utf8.first", Rows.laid_unicode_utf8_first)] w) ∧ sizedMet enc Tryd.prog Tryd.f6 (OpenSpec.ofChange Rows.headQuotesSpec) false w args)
      (Rows.headQuotesSpec.post enc Tryd.prog Tryd.f6 false true false false) := by
  refine returnsInHanded_of_change_and_shaped (C := Tryd.checked) (X := fun w _ => laidMetH Tryd.prog [("unicode/utf8.acceptRanges", Rows.laid_unicode_utf8_acceptRanges), ("unicode/utf8.first", Rows.laid_unicode_utf8_first)] w) (fun _ _ _ hh h => h.of_heap hh) own started (by kernel_rfl) Tryd.func6
    (ChangeSpec.witness_shaped (enc := enc) (C := Tryd.checked) (os := os) (X := fun w _ => laidMetH Tryd.prog [("unicode/utf8.acceptRanges", Rows.laid_unicode_utf8_acceptRanges), ("unicode/utf8.first", Rows.laid_unicode_utf8_first)] w) false (laidW os) #[.string ⟨#[]⟩] 8 rfl (World.shaped_of_RefB (by kernel_rfl) (by kernel_rfl)) (by kernel_rfl) (by kernel_rfl) (by kernel_rfl) (door_met os _)) ?_
  intro W base args ds gs before hval0 hW _ _ hL hsh _
  have hval : ∀ (j : Nat) t v, Tryd.f6.params[j]? = some t → args[j]? = some v → Value.okWide Tryd.prog W .any base t v := hval0
  have hW' := hW
  obtain ⟨p, q, hA0, hV, rfl, hfz, hnd⟩ := hW
  have hA : DataW.TrodAll enc Tryd.prog W 0 (fun _ => true) true Tryd.f6.params.toList args.toList ds p := hA0
  rw [Tryd.params6] at hA hval
  obtain ⟨v0, vs0, d0, ds0, p0, q0, hargs, rfl, rfl, h0, r0⟩ := trodAll_cons hA
  obtain ⟨rfl, rfl, rfl⟩ := trodAll_nil r0
  obtain rfl : args = #[v0] := by cases args; simp_all
  obtain ⟨rfl, rfl⟩ := trodVars_none hV
  obtain ⟨s, rfl, rfl, rfl, w0⟩ := open_string Tryd.underlying9 (hval 0 9 v0 rfl rfl) h0
  clear hA0 hval0
  refine (walk_headQuotes s W (max_of_shape hsh) w0).mono fun e W' ⟨he, bel⟩ => ?_
  subst he
  exact ⟨_, rfl, _, _, _, [], _, [], hW', trodAll_mk1 (shut_bool Tryd.underlying4 _), (trodAll_cons_mk (shut_string Tryd.underlying9 w0) trodAll_mk0), rfl, bel.frame _, fun h => by cases h⟩
theorem over : Rows.headQuotesRow.holds Tryd.pinned (OpenSpec.ofChange Rows.headQuotesSpec) :=
  OpenClaim.holds_of_wide 6 Tryd.f6 rfl rfl rfl rfl rfl rfl rfl ⟨rfl, rfl, rfl, rfl, rfl⟩ rfl rfl rfl rfl rfl (by kernel_rfl) Tryd.func6 (by kernel_rfl)
    (of_decide_eq_true (by kernel_rfl)) (by unfold Func.isWrapper; first | (rw [if_pos (by decide +kernel)]; kernel_rfl) | (rw [if_neg (by decide +kernel)]; exact ⟨rfl, rfl⟩))
    (fun os started H enc _ => lifted os started H enc)
theorem proved : Rows.HeadQuotesCardSaid :=
  Claim7.holds_tied_plain_at .later [] [.data, .pinned] true (true, "85544a4ee0e1fef3f92d658d88eb15f15a7b50e4fda37eea8480a4f6b55f7dd8") false
    over (fun _ h => by cases h) (by kernel_rfl) (fun _ h => by cases h) headQuotes_row_tie rfl ⟨rfl, rfl⟩ (by kernel_rfl) rfl
    (fun f fn hf hfn => by
      obtain rfl : f = 6 := Option.some.inj ((show Tryd.prog.funcNamed "nuncio/nunciolaw13.HeadQuotes" = some 6 by kernel_rfl).symm.trans hf) |>.symm
      obtain rfl : fn = Tryd.f6 := (Option.some.inj (Tryd.func6.symm.trans hfn)).symm
      exact ⟨by kernel_rfl, fun j t ht => by
        rw [Tryd.params6] at ht
        have hm : t ∈ [9] := by simpa using Array.mem_of_getElem? ht
        have hall : ([9].all fun u => !Tryd.prog.wantsStandIn u) = true := by kernel_rfl
        exact (show Tryd.prog.wantsStandIn t = false by simpa using List.all_eq_true.1 hall t hm)⟩)
    (by kernel_rfl)
end headQuotesDone
end Go.Proofs.YtdfflbpifpoogaaDoor
#print axioms Go.Proofs.YtdfflbpifpoogaaDoor.headQuotesDone.proved
