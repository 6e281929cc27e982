/- Law 13: lines of at most 998 bytes are accepted, and longer ones return ErrLong: Split and the reference give the same answer for a field whose line, first or second, has any length below 1100. -/
import Derived.Test.YtdfflbpifpoogaaDoorHrb
import Derived.Test.YtdfflbpifpoogaaDoorHfr
import Derived.Test.YtdfflbpifpoogaaDoorTie
import Derived.Test.YtdfflbpifpoogaaDoorCards
import Derived.SevenTiedAt
set_option linter.unusedVariables false
set_option synthInstance.maxSize 4000
namespace Go.Proofs.YtdfflbpifpoogaaDoor
open Go.RowKit Nun
theorem splitl_of (s : ByteArray) (w : World) (hm : MaxIs w) (hs : s.size ≤ 10000) (V : Split) (h : splitL s.data.toList = V) : Calls Tryd.prog 9 #[.string s] w (splitV V w) := h ▸ split_any s w hm hs
/-- What both answers have alike. -/
def Err3 (E : Int) (w : World) (e : Ending) (w' : World) : Prop := ∃ v : Value, ∃ b : Int, e = .returned (.tuple #[v, .int .i64 b, .int .i64 E]) ∧ Below w.heap.size w w'
def errOf : Split → Int
  | .form => 7
  | .long => 6
  | .ok _ _ => 0
theorem err_split (s : ByteArray) (w : World) (hm : MaxIs w) (hs : s.size ≤ 10000) (E : Int) (h : errOf (splitL s.data.toList) = E) : Calls Tryd.prog 9 #[.string s] w (Err3 E w) := by
  refine (split_any s w hm hs).mono fun e w' hh => ?_
  rcases hV : splitL s.data.toList with _ | _ | ⟨F, b⟩
  · rw [hV] at h hh; subst h; exact ⟨_, 0, hh⟩
  · rw [hV] at h hh; subst h; exact ⟨_, 0, hh⟩
  · rw [hV] at h hh; subst h
    obtain ⟨v, rfl, _, hb⟩ := hh
    exact ⟨v, _, rfl, hb⟩
theorem err_ref (s : ByteArray) (w : World) (hs : s.size ≤ 10000) (E : Int) (h : errOf (splitL s.data.toList) = E) : Calls Tryd.prog 10 #[.string s] w (Err3 E w) := by
  rcases hV : splitL s.data.toList with _ | _ | ⟨F, b⟩
  · refine (split_ref s w hs _ hV).mono fun e w' hh => ?_
    rw [hV] at h; subst h; exact ⟨_, 0, hh⟩
  · refine (split_ref s w hs _ hV).mono fun e w' hh => ?_
    rw [hV] at h; subst h; exact ⟨_, 0, hh⟩
  · refine (split_ref s w hs _ hV).mono fun e w' hh => ?_
    rw [hV] at h; subst h
    obtain ⟨v, rfl, _, hb⟩ := hh
    exact ⟨v, _, rfl, hb⟩
theorem conv_part {P : Program} {src dst e : TypeId} (hs : P.underlying src = some (.slice e)) (he : P.underlying e = some (.int .u8)) (hd : P.underlying dst = some .string) {w : World} {B : Nat} {a : Option Addr} {n cap : Nat} {l : List UInt8}
    (h : w.ownsRow B e 1 (.slice a n cap) l.length (Lib.byteCells l)) (k cap' : Nat) (hk : k ≤ l.length) (a' : Option Addr) (ha : a' = a) : (convert src dst (.slice a' k cap')).run P w = .ok (.string ⟨(l.take k).toArray⟩) w := by
  subst ha
  rcases h.2 with ⟨h1, h0⟩ | ⟨g, cap2, cur, h1, h2, r⟩
  · have h0' : l.length = 0 := by simpa using h0
    have hl : l = [] := List.eq_nil_of_length_eq_zero h0'
    subst hl
    cases h1
    obtain rfl : k = 0 := by simpa using hk
    exact run_convert_bytes_nil (w := w) src e hs he 0 _ dst hd
  · cases h1
    have hlen : (l.take k).length = k := by rw [List.length_take]; omega
    have := run_convert_bytes_back w src dst e ⟨g, 0, none⟩ cap' (l.take k) hs he hd fun j hj => by
      rw [hlen] at hj
      have hc := World.ownsRow.cells (g := g) h rfl j (.int .u8 (l[j]'(by omega)).toNat) (by simp [Lib.byteCells, show j < l.length by omega])
      rw [List.getElem_take]
      exact hc
    rw [hlen] at this
    exact this
set_option maxHeartbeats 4000000 in
set_option maxRecDepth 100000 in
theorem walk_headLongs (n : Int) (first : Bool) (w : World) (hm : MaxIs w) (hn : (Lit.int .u16 n).wf = true) : Calls Tryd.prog 4 #[.int .u16 n, .bool first] w (Ret (.bool true) w) := by
  have hb : 0 ≤ n ∧ n ≤ 65535 := by
    have h1 : IntKind.min .u16 = 0 := rfl
    have h2 : IntKind.max .u16 = 65535 := rfl
    simpa [Lit.wf, h1, h2] using hn
  obtain ⟨hn0, hn1⟩ := hb
  clear hn
  obtain ⟨K, hK⟩ : ∃ K : Nat, n % 1100 = K := ⟨(n % 1100).toNat, by omega⟩
  have hKl : K < 1100 := by omega
  go_enter Tryd.func4, Tryd.ntmps4
  go_wp2
  rw [hK]
  clear hK
  go_loopw [6, 7] (fun v i wr => ∃ k : Nat, i = .int .i64 k ∧ k ≤ K ∧ OwnB w.heap.size 5 v (List.replicate k 120) wr ∧ Below w.heap.size w wr) (fun _ i _ => K - (intOf i).toNat)
  case atStart => exact ⟨0, rfl, Nat.zero_le _, OwnB.made w (Nat.le_refl _) 0 _ rfl (by decide), (Below.refl _ _).alloc (Nat.le_refl _) _⟩
  case round =>
    rename_i u6 u7
    obtain ⟨k, rfl, hk, hown, hbel⟩ := hrel
    by_cases hlt : k < K
    · have hlen : (List.replicate k (120 : UInt8)).length = k := List.length_replicate
      have hst : List.replicate (k + 1) (120 : UInt8) = List.replicate k 120 ++ [120] := List.replicate_succ'
      obtain ⟨L, hL⟩ : ∃ L, List.replicate k (120 : UInt8) = L := ⟨_, rfl⟩
      rw [hL] at hown hlen
      have HST := Lib.hid hst; have HL := Lib.hid hL
      clear hst hL
      go_wp2_with (at_builtin; refine pushb (by rfl) _ _ _ (by rfl) 5 Tryd.underlying35 infoByte w.heap.size wr _ _ (by rfl) hown (120 : UInt8) (by rfl) (by omega) hbel.size ?_; intro g cap w1 hg hown1 hgr hb1 hsz1)
      go_roundw
      case rel => exact ⟨k + 1, by go_num, by omega, by have h := hown1; rw [hlen] at h; rw [HST.out, HL.out]; exact h, hbel.trans hb1⟩
      case measure => simp [intOf]; omega
    · obtain rfl : k = K := by omega
      obtain ⟨L, hL⟩ : ∃ L, List.replicate k (120 : UInt8) = L := ⟨_, rfl⟩
      have hlen : L.length = k := by rw [← hL]; exact List.length_replicate
      rw [hL] at hown
      clear hL
      obtain ⟨a, cap, rfl, hcap⟩ : ∃ a cap, u6 = .slice a k cap ∧ k ≤ cap := by
        rcases hown.2 with ⟨h1, h0⟩ | ⟨g, cap, cur, h1, h2, r⟩
        · have h3 : L.length = 0 := by simpa using h0
          exact ⟨none, 0, by rw [h1, show k = 0 by omega], by omega⟩
        · exact ⟨_, cap, by rw [h1, hlen], by rw [← hlen]; exact r.2.1⟩
      have ho2 : wr.ownsRow w.heap.size 5 1 (.slice a k cap) L.length (Lib.byteCells L) := hown
      have kc := conv_own (P := Tryd.prog) Tryd.underlying35 Tryd.underlying5 Tryd.underlying9 hown
      obtain ⟨j, hj, hjk⟩ : ∃ j : Nat, max (0 : Int) ((k : Int) - 1) = j ∧ j ≤ k := ⟨k - 1, by omega, by omega⟩
      have kp := conv_part (P := Tryd.prog) Tryd.underlying35 Tryd.underlying5 Tryd.underlying9 ho2 j cap (by omega) a rfl
      obtain ⟨B, hB⟩ : ∃ B : ByteArray, (⟨L.toArray⟩ : ByteArray) = B := ⟨_, rfl⟩
      obtain ⟨C, hC⟩ : ∃ C : ByteArray, (⟨(L.take j).toArray⟩ : ByteArray) = C := ⟨_, rfl⟩
      have hBz : B.size ≤ 1100 := by rw [← hB]; show L.length ≤ _; omega
      have hCz : C.size ≤ 1100 := by rw [← hC]; show (L.take j).length ≤ _; rw [List.length_take]; omega
      rw [hB] at kc; rw [hC] at kp
      clear hB hC ho2 hown
      have hz1 : (⟨#[65, 58, 13, 10, 32]⟩ ++ B ++ ⟨#[13, 10, 13, 10]⟩ : ByteArray).size ≤ 10000 := by
        have h1 : (⟨#[65, 58, 13, 10, 32]⟩ : ByteArray).size = 5 := rfl
        have h2 : (⟨#[13, 10, 13, 10]⟩ : ByteArray).size = 4 := rfl
        rw [ByteArray.size_append, ByteArray.size_append, h1, h2]; omega
      have hz2 : (⟨#[65, 58]⟩ ++ C ++ ⟨#[13, 10, 13, 10]⟩ : ByteArray).size ≤ 10000 := by
        have h1 : (⟨#[65, 58]⟩ : ByteArray).size = 2 := rfl
        have h2 : (⟨#[13, 10, 13, 10]⟩ : ByteArray).size = 4 := rfl
        rw [ByteArray.size_append, ByteArray.size_append, h1, h2]; omega
      have HZ1 := Lib.hid hz1; have HZ2 := Lib.hid hz2; clear hz1 hz2
      have hmm := hm.below hbel
      have hE1 : ∃ E, errOf (splitL (⟨#[65, 58, 13, 10, 32]⟩ ++ B ++ ⟨#[13, 10, 13, 10]⟩ : ByteArray).data.toList) = E := ⟨_, rfl⟩
      have hE2 : ∃ E, errOf (splitL (⟨#[65, 58]⟩ ++ C ++ ⟨#[13, 10, 13, 10]⟩ : ByteArray).data.toList) = E := ⟨_, rfl⟩
      obtain ⟨E1, hE1⟩ := hE1
      obtain ⟨E2, hE2⟩ := hE2
      have HE1 := Lib.hid hE1; have HE2 := Lib.hid hE2; clear hE1 hE2
      rcases first with _ | _
      · go_wp2_with (first | (go_at_call 9; refine (err_split _ _ hmm HZ1.out E1 HE1.out).mono ?_; rintro e w1 ⟨v1, b1, rfl, hb1⟩) | (go_at_call 10; refine (err_ref _ _ HZ1.out E1 HE1.out).mono ?_; rintro e w2 ⟨v2, b2, rfl, hb2⟩) | (go_at_call 13; refine (awake13 _ ((hmm.below hb1).below hb2)).mono ?_; rintro e w3 ⟨rfl, hb3⟩))
        go_ret
        exact ⟨rfl, hbel.trans ((hb1.mono hbel.size).trans ((hb2.mono (Nat.le_trans hbel.size hb1.size)).trans (hb3.mono (Nat.le_trans hbel.size (Nat.le_trans hb1.size hb2.size)))))⟩
      · go_wp2_with (first | (go_at_call 9; refine (err_split _ _ hmm HZ2.out E2 HE2.out).mono ?_; rintro e w1 ⟨v1, b1, rfl, hb1⟩) | (go_at_call 10; refine (err_ref _ _ HZ2.out E2 HE2.out).mono ?_; rintro e w2 ⟨v2, b2, rfl, hb2⟩) | (go_at_call 13; refine (awake13 _ ((hmm.below hb1).below hb2)).mono ?_; rintro e w3 ⟨rfl, hb3⟩))
        go_ret
        exact ⟨rfl, hbel.trans ((hb1.mono hbel.size).trans ((hb2.mono (Nat.le_trans hbel.size hb1.size)).trans (hb3.mono (Nat.le_trans hbel.size (Nat.le_trans hb1.size hb2.size)))))⟩
open Go.ChangeShapes Go.WideShapes Go.ChangeAt
open Go.ChangeMaps (open_string shut_string)
namespace headLongsDone
theorem own : ownKnob Tryd.prog.godebug = none := by kernel_rfl
set_option maxRecDepth 100000 in
theorem lifted (os : Os) (started : os.Started) (H : Type) (enc : TypeId × Value → H) :
    ReturnsInHanded {} Tryd.checked os 4 .any (fun w args => (Rows.headLongsSpec.pre enc Tryd.prog Tryd.f4 [] false w args ∧ laidMetH Tryd.prog [("unicode/utf8.acceptRanges", Rows.laid_unicode_utf8_acceptRanges), ("unicode/utf8.first", Rows.laid_unicode_utf8_first)] w) ∧ sizedMet enc Tryd.prog Tryd.f4 (OpenSpec.ofChange Rows.headLongsSpec) false w args)
      (Rows.headLongsSpec.post enc Tryd.prog Tryd.f4 false true false false) := by
  refine returnsInHanded_of_change_and_shaped (C := Tryd.checked) (X := fun w _ => laidMetH Tryd.prog [("unicode/utf8.acceptRanges", Rows.laid_unicode_utf8_acceptRanges), ("unicode/utf8.first", Rows.laid_unicode_utf8_first)] w) (fun _ _ _ hh h => h.of_heap hh) own started (by kernel_rfl) Tryd.func4
    (ChangeSpec.witness_shaped (enc := enc) (C := Tryd.checked) (os := os) (X := fun w _ => laidMetH Tryd.prog [("unicode/utf8.acceptRanges", Rows.laid_unicode_utf8_acceptRanges), ("unicode/utf8.first", Rows.laid_unicode_utf8_first)] w) false (laidW os) #[.int .u16 0, .bool false] 8 rfl (World.shaped_of_RefB (by kernel_rfl) (by kernel_rfl)) (by kernel_rfl) (by kernel_rfl) (by kernel_rfl) (door_met os _)) ?_
  intro W base args ds gs before hval0 hW _ _ hL hsh _
  have hval : ∀ (j : Nat) t v, Tryd.f4.params[j]? = some t → args[j]? = some v → Value.okWide Tryd.prog W .any base t v := hval0
  have hW' := hW
  obtain ⟨p, q, hA0, hV, rfl, hfz, hnd⟩ := hW
  have hA : DataW.TrodAll enc Tryd.prog W 0 (fun _ => true) true Tryd.f4.params.toList args.toList ds p := hA0
  rw [Tryd.params4] at hA hval
  obtain ⟨v0, vs0, d0, ds0, p0, q0, hargs, rfl, rfl, h0, r0⟩ := trodAll_cons hA
  obtain ⟨v1, vs1, d1, ds1, p1, q1, rfl, rfl, rfl, h1, r1⟩ := trodAll_cons r0
  obtain ⟨rfl, rfl, rfl⟩ := trodAll_nil r1
  obtain rfl : args = #[v0, v1] := by cases args; simp_all
  obtain ⟨rfl, rfl⟩ := trodVars_none hV
  obtain ⟨n, rfl, rfl, rfl, w0⟩ := open_int Tryd.underlying34 (hval 0 34 v0 rfl rfl) h0
  obtain ⟨first, rfl, rfl, rfl⟩ := open_bool Tryd.underlying4 (hval 1 4 v1 rfl rfl) h1
  clear hA0 hval0
  refine (walk_headLongs n first W (max_of_shape hsh) w0).mono fun e W' ⟨he, bel⟩ => ?_
  subst he
  exact ⟨_, rfl, _, _, _, [], _, [], hW', trodAll_mk1 (shut_bool Tryd.underlying4 _), (trodAll_cons_mk (shut_int Tryd.underlying34 w0) (trodAll_cons_mk (shut_bool Tryd.underlying4 first) trodAll_mk0)), rfl, bel.frame _, fun h => by cases h⟩
theorem over : Rows.headLongsRow.holds Tryd.pinned (OpenSpec.ofChange Rows.headLongsSpec) :=
  OpenClaim.holds_of_wide 4 Tryd.f4 rfl rfl rfl rfl rfl rfl rfl ⟨rfl, rfl, rfl, rfl, rfl⟩ rfl rfl rfl rfl rfl (by kernel_rfl) Tryd.func4 (by kernel_rfl)
    (of_decide_eq_true (by kernel_rfl)) (by unfold Func.isWrapper; first | (rw [if_pos (by decide +kernel)]; kernel_rfl) | (rw [if_neg (by decide +kernel)]; exact ⟨rfl, rfl⟩))
    (fun os started H enc _ => lifted os started H enc)
theorem proved : Rows.HeadLongsCardSaid :=
  Claim7.holds_tied_plain_at .later [] [.data, .pinned] true (true, "85544a4ee0e1fef3f92d658d88eb15f15a7b50e4fda37eea8480a4f6b55f7dd8") false
    over (fun _ h => by cases h) (by kernel_rfl) (fun _ h => by cases h) headLongs_row_tie rfl ⟨rfl, rfl⟩ (by kernel_rfl) rfl
    (fun f fn hf hfn => by
      obtain rfl : f = 4 := Option.some.inj ((show Tryd.prog.funcNamed "nuncio/nunciolaw13.HeadLongs" = some 4 by kernel_rfl).symm.trans hf) |>.symm
      obtain rfl : fn = Tryd.f4 := (Option.some.inj (Tryd.func4.symm.trans hfn)).symm
      exact ⟨by kernel_rfl, fun j t ht => by
        rw [Tryd.params4] at ht
        have hm : t ∈ [34, 4] := by simpa using Array.mem_of_getElem? ht
        have hall : ([34, 4].all fun u => !Tryd.prog.wantsStandIn u) = true := by kernel_rfl
        exact (show Tryd.prog.wantsStandIn t = false by simpa using List.all_eq_true.1 hall t hm)⟩)
    (by kernel_rfl)
end headLongsDone
end Go.Proofs.YtdfflbpifpoogaaDoor
#print axioms Go.Proofs.YtdfflbpifpoogaaDoor.headLongsDone.proved
