/- Law 13: Get agrees with the reference. -/
import Derived.Test.YtdfflbpifpoogaaDoorEgb
import Derived.Test.YtdfflbpifpoogaaDoorHfr
import Derived.Test.YtdfflbpifpoogaaDoorTie
import Derived.Test.YtdfflbpifpoogaaDoorCards
import Derived.SevenTiedAt
set_option linter.unusedVariables false
set_option synthInstance.maxSize 4000
namespace Nun
open Go Go.RowKit Go.Proofs Go.Proofs.YtdfflbpifpoogaaDoor
def specG (f : FuncId) (vs : List Value) : Option Value :=
  if f = 36 then (match vs with
    | [.string s, .string t] => if s.size ≤ 1000000 ∧ t.size ≤ 1000000 then some (.bool (alikeB s t)) else none
    | _ => none)
  else if f = 41 then (match vs with
    | [.string s] => if s.size ≤ 1000000 then some (.string (foldB s)) else none
    | _ => none)
  else if f = 13 then (match vs with
    | [] => some (.bool true)
    | _ => none)
  else none
def gMax : Glob := ⟨fun g => g = 0, MaxIs, fun w h g hg => by subst hg; exact h.lt, fun w w' h hk => h.kept (hk _ rfl)⟩
theorem specG_ok : ∀ f vs v, specG f vs = some v → FlatOk Tryd.prog gMax f (specG f) := fun f vs v h => by
  have hf : f = 36 ∨ f = 41 ∨ f = 13 := by
    unfold specG at h
    split at h
    · exact .inl ‹_›
    · split at h
      · exact .inr (.inl ‹_›)
      · split at h
        · exact .inr (.inr ‹_›)
        · cases h
  clear h
  rcases hf with rfl | rfl | rfl
  · refine ⟨by kernel_rfl, fun vs v h => ?_⟩
    simp only [specG, if_true] at h
    split at h
    · split at h
      · rename_i s t hc
        cases h
        exact ⟨rfl, fun w _ => alike_any s t w hc.1 hc.2⟩
      · cases h
    · cases h
  · refine ⟨by kernel_rfl, fun vs v h => ?_⟩
    have hne : ¬ ((41 : FuncId) = 36) := by decide
    simp only [specG, if_true, if_neg hne] at h
    split at h
    · split at h
      · rename_i s hc
        cases h
        exact ⟨rfl, fun w _ => fold_ref s w hc⟩
      · cases h
    · cases h
  · refine ⟨by kernel_rfl, fun vs v h => ?_⟩
    have hne : ¬ ((13 : FuncId) = 36) := by decide
    have hne2 : ¬ ((13 : FuncId) = 41) := by decide
    simp only [specG, if_true, if_neg hne, if_neg hne2] at h
    split at h
    · cases h
      exact ⟨rfl, fun w hw => awake13 w hw⟩
    · cases h
theorem code_no (f : FuncId) (h : (lvs.lookup f).isNone = true) : code f = none := by
  unfold code
  rw [Option.isNone_iff_eq_none.1 h]; rfl
theorem okG : CallOk Tryd.prog gMax (evW code (flatLib specG)) := evW_ok Tryd.checked.mixed code_ok (flatLib_ok specG_ok)
theorem alike_ev (s t : ByteArray) (hs : s.size ≤ 1000000) (ht : t.size ≤ 1000000) : evW code (flatLib specG) 36 [.flat (.string s), .flat (.string t)] [] [] = some ([.flat (.bool (alikeB s t))], false, [], []) := by
  refine evW_lib (code_no _ (by decide)) ?_
  simp [flatLib, flats, specG, hs, ht]
theorem fold_ev (s : ByteArray) (hs : s.size ≤ 1000000) : evW code (flatLib specG) 41 [.flat (.string s)] [] [] = some ([.flat (.string (foldB s))], false, [], []) := by
  refine evW_lib (code_no _ (by decide)) ?_
  simp [flatLib, flats, specG, hs]
theorem awake_ev : evW code (flatLib specG) 13 [] [] [] = some ([.flat (.bool true)], false, [], []) := by
  refine evW_lib (code_no _ (by decide)) ?_
  simp [flatLib, flats, specG]
theorem fit_field {n : Nat} {ps : List PV} (h : fit Tryd.prog n 45 ps) : ∃ f : BF, ps = [.flat (.string f.1), .flat (.string f.2)] := by
  cases n with
  | zero => cases h
  | succ n =>
    simp only [fit, Tryd.underlying45] at h
    obtain ⟨xss, rfl, hl, hx⟩ := h
    obtain ⟨a, b, rfl⟩ : ∃ a b, xss = [a, b] := by
      match xss, hl with
      | [a, b], _ => exact ⟨a, b, rfl⟩
    have h0 := hx 0 _ a rfl rfl
    have h1 := hx 1 _ b rfl rfl
    cases n with
    | zero => cases h0
    | succ n =>
      simp only [fit, Tryd.underlying9] at h0 h1
      obtain ⟨s, rfl, _⟩ := h0
      obtain ⟨t, rfl, _⟩ := h1
      exact ⟨(s, t), rfl⟩
theorem fit_fields {n : Nat} {p : PV} (h : fitA Tryd.prog n 27 p) : ∃ L : List BF, p = .slc L.length (bcs L) := by
  cases n with
  | zero => simp [fitA, Tryd.underlying27, fit] at h
  | succ n =>
    simp only [fitA, Tryd.underlying27, fit] at h
    obtain ⟨xss, he, _, hx⟩ := h
    have key : ∀ xss : List (List PV), (∀ xs ∈ xss, fit Tryd.prog n 45 xs) → ∃ L : List BF, xss.flatten = bcs L ∧ xss.length = L.length := by
      intro xss
      induction xss with
      | nil => exact fun _ => ⟨[], rfl, rfl⟩
      | cons x r ih =>
        intro hx
        obtain ⟨f, rfl⟩ := fit_field (hx x (by simp))
        obtain ⟨L, h1, h2⟩ := ih fun y hy => hx y (by simp [hy])
        exact ⟨f :: L, by rw [List.flatten_cons, h1, bcs_cons]; rfl, by simp [h2]⟩
    obtain ⟨L, h1, h2⟩ := key xss hx
    rw [h1, h2] at he
    exact ⟨L, by simpa using he⟩
theorem fit_str {n : Nat} {p : PV} (h : fitA Tryd.prog n 9 p) : ∃ s : ByteArray, p = .flat (.string s) := by
  cases n with
  | zero => simp [fitA, Tryd.underlying9, fit] at h
  | succ n =>
    simp only [fitA, Tryd.underlying9, fit] at h
    obtain ⟨s, he, _⟩ := h
    exact ⟨s, by simpa using he⟩
theorem walk_headGets (W : World) (hm : MaxIs W) (pvs : List PV) (vs : List Value) (hr : Rds W (Fr0 W) [] pvs vs) (hf : fits Tryd.prog Tryd.f7.params.toList pvs) : Calls Tryd.prog 7 vs.toArray W (Ret (.bool true) W) := by
  rw [Tryd.params7] at hf
  match pvs, hf with
  | [p, q], ⟨⟨n, h1⟩, ⟨m, h2⟩, _⟩ =>
    obtain ⟨L, rfl⟩ := fit_fields h1
    obtain ⟨s, rfl⟩ := fit_str h2
    exact calls_of okG (headGets_ev L s alike_ev fold_ev awake_ev) hm hr
end Nun
namespace Go.Proofs.YtdfflbpifpoogaaDoor
open Go.RowKit Nun
open Go.ChangeShapes Go.WideShapes Go.ChangeAt
namespace headGetsDone
theorem own : ownKnob Tryd.prog.godebug = none := by kernel_rfl
theorem kids : Kids Tryd.prog (· < Tryd.prog.types.size) := kids_rows (by kernel_rfl) (by kernel_rfl)
theorem full : ∀ t e, t < Tryd.prog.types.size → Tryd.prog.underlying t = some (.slice e) → 0 < Tryd.prog.cellsOf e := slices_full_of Tryd.prog (by kernel_rfl)
theorem typed : ∀ t ∈ Tryd.f7.params.toList, t < Tryd.prog.types.size := fun t ht => by
  rw [Tryd.params7] at ht
  have hall : ([27, 9].all fun u => decide (u < Tryd.prog.types.size)) = true := by kernel_rfl
  exact of_decide_eq_true (List.all_eq_true.1 hall t ht)
set_option maxRecDepth 100000 in
theorem lifted (os : Os) (started : os.Started) (H : Type) (enc : TypeId × Value → H) :
    ReturnsInHanded {} Tryd.checked os 7 .any (fun w args => (Rows.headGetsSpec.pre enc Tryd.prog Tryd.f7 [] false w args ∧ laidMetH Tryd.prog [("unicode/utf8.acceptRanges", Rows.laid_unicode_utf8_acceptRanges), ("unicode/utf8.first", Rows.laid_unicode_utf8_first)] w) ∧ sizedMet enc Tryd.prog Tryd.f7 (OpenSpec.ofChange Rows.headGetsSpec) false w args)
      (Rows.headGetsSpec.post enc Tryd.prog Tryd.f7 false true false false) := by
  refine returnsInHanded_of_change_and_shaped (C := Tryd.checked) (X := fun w _ => laidMetH Tryd.prog [("unicode/utf8.acceptRanges", Rows.laid_unicode_utf8_acceptRanges), ("unicode/utf8.first", Rows.laid_unicode_utf8_first)] w) (fun _ _ _ hh h => h.of_heap hh) own started (by kernel_rfl) Tryd.func7
    (ChangeSpec.witness_shaped (enc := enc) (C := Tryd.checked) (os := os) (X := fun w _ => laidMetH Tryd.prog [("unicode/utf8.acceptRanges", Rows.laid_unicode_utf8_acceptRanges), ("unicode/utf8.first", Rows.laid_unicode_utf8_first)] w) false (laidW os) #[.slice none 0 0, .string ⟨#[]⟩] 8 rfl (World.shaped_of_RefB (by kernel_rfl) (by kernel_rfl)) (by kernel_rfl) (by kernel_rfl) (by kernel_rfl) (door_met os _)) ?_
  intro W base args ds gs before hval0 hW _ _ hL hsh _
  have hW' := hW
  obtain ⟨p, q, hA, _⟩ := hW
  obtain ⟨pvs, k1, k2⟩ := args_open kids full typed (fun j t v h1 h2 => hval0 j t v (by simpa using h1) (by simpa using h2)) hA
  have hlen := trodAll_len hA
  have hc := walk_headGets W (max_of_shape hsh) pvs args.toList k1 k2
  rw [Array.toArray_toList] at hc
  refine hc.mono fun e W' ⟨he, bel⟩ => ?_
  subst he
  refine ⟨_, rfl, post_law (tb := 4) kids full hW' rfl ?_ rfl Tryd.underlying4 typed bel⟩
  rw [Tryd.params7] at hlen
  match ds, hlen with
  | [d0, d1], _ => rfl
theorem over : Rows.headGetsRow.holds Tryd.pinned (OpenSpec.ofChange Rows.headGetsSpec) :=
  OpenClaim.holds_of_wide 7 Tryd.f7 rfl rfl rfl rfl rfl rfl rfl ⟨rfl, rfl, rfl, rfl, rfl⟩ rfl rfl rfl rfl rfl (by kernel_rfl) Tryd.func7 (by kernel_rfl)
    (of_decide_eq_true (by kernel_rfl)) (by unfold Func.isWrapper; first | (rw [if_pos (by decide +kernel)]; kernel_rfl) | (rw [if_neg (by decide +kernel)]; exact ⟨rfl, rfl⟩))
    (fun os started H enc _ => lifted os started H enc)
theorem proved : Rows.HeadGetsCardSaid :=
  Claim7.holds_tied_plain_at .later [] [.data, .pinned] true (true, "85544a4ee0e1fef3f92d658d88eb15f15a7b50e4fda37eea8480a4f6b55f7dd8") false
    over (fun _ h => by cases h) (by kernel_rfl) (fun _ h => by cases h) headGets_row_tie rfl ⟨rfl, rfl⟩ (by kernel_rfl) rfl
    (fun f fn hf hfn => by
      obtain rfl : f = 7 := Option.some.inj ((show Tryd.prog.funcNamed "nuncio/nunciolaw13.HeadGets" = some 7 by kernel_rfl).symm.trans hf) |>.symm
      obtain rfl : fn = Tryd.f7 := (Option.some.inj (Tryd.func7.symm.trans hfn)).symm
      exact ⟨by kernel_rfl, fun j t ht => by
        rw [Tryd.params7] at ht
        have hm : t ∈ [27, 9] := by simpa using Array.mem_of_getElem? ht
        have hall : ([27, 9].all fun u => !Tryd.prog.wantsStandIn u) = true := by kernel_rfl
        exact (show Tryd.prog.wantsStandIn t = false by simpa using List.all_eq_true.1 hall t hm)⟩)
    (by kernel_rfl)
end headGetsDone
end Go.Proofs.YtdfflbpifpoogaaDoor
#print axioms Go.Proofs.YtdfflbpifpoogaaDoor.headGetsDone.proved
