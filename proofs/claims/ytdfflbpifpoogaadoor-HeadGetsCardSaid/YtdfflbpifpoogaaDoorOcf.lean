/- octet.Fold, Alike; the reference's Fold, Begins, Trim; octet.Trim; which bytes a head's line and name have. -/
import Derived.Test.YtdfflbpifpoogaaDoorHpl
import Derived.Test.YtdfflbpifpoogaaDoorShelf
import Derived.Shelf.Strings.SlTrimAscii
import Derived.Laws.OwnMore
set_option linter.unusedVariables false
set_option synthInstance.maxSize 4000
namespace Nun
open Go Go.RowKit
theorem take_all (p : UInt8 → Bool) (s : ByteArray) (k : Nat) (h : k < s.size) : (s.data.toList.take (k + 1)).all p = ((s.data.toList.take k).all p && p s[k]) := by
  have h' : k < s.data.toList.length := h
  rw [List.take_succ_eq_append_getElem h', List.all_append]; simp; rfl
theorem all_bad (p : UInt8 → Bool) (s : ByteArray) (k : Nat) (h : k < s.size) (hb : p s[k] = false) : s.data.toList.all p = false := by
  rw [List.all_eq_false]
  exact ⟨s[k], by have : s.data.toList[k]'h = s[k] := rfl
                  rw [← this]; exact List.getElem_mem _, by simp [hb]⟩
theorem all_end (p : UInt8 → Bool) (s : ByteArray) : (s.data.toList.take s.size).all p = s.data.toList.all p := by
  rw [List.take_of_length_le (by show s.size ≤ s.size; omega)]
end Nun
namespace Go.Proofs.YtdfflbpifpoogaaDoor
open Go.RowKit Nun
theorem infoByte : (Tryd.prog.info? 5).map (fun i => (i.zero, i.size, i.bytes)) = some (some (.int .u8 0), 1, 1) := by kernel_rfl
set_option maxHeartbeats 1000000 in
theorem shown_any (s : ByteArray) (w : World) (hs : s.size ≤ maxLen) : Calls Tryd.prog 21 #[.string s] w (Same (.bool (s.data.toList.all shownC)) w) := by
  unfold maxLen at hs
  obtain ⟨V, hV⟩ : ∃ V, s.data.toList.all shownC = V := ⟨_, rfl⟩
  rw [hV]
  have HV := Lib.hid hV; clear hV
  go_enter Tryd.func21, Tryd.ntmps21
  go_wp2
  go_loop [3, 4, 7] (fun _ _ i => ∃ k : Nat, k ≤ s.size ∧ i = .int .i64 k ∧ Hid ((s.data.toList.take k).all shownC = true)) (fun _ _ i => s.size - (intOf i).toNat)
  case atStart => exact ⟨0, Nat.zero_le _, rfl, Lib.hid rfl⟩
  case round =>
    obtain ⟨k, hk, rfl, hall⟩ := hrel
    by_cases hlt : k < s.size
    · have hst := take_all shownC s k hlt
      have hbad := all_bad shownC s k hlt
      rw [HV.out] at hbad
      generalize hc : s[k] = c at *
      have HS := Lib.hid hst; have HB := Lib.hid hbad; clear hst hbad
      go_wp2
      all_goals (try (go_ret; exact ⟨r1 (vb (HB.out (by (clear hc HS HB hall); (go_light; revert c; decide +kernel))).symm), rfl⟩))
      all_goals
        have hstep : shownC c = true := by (clear hc HS HB hall); (go_light; revert c; decide +kernel)
        go_round
        case rel => exact ⟨k + 1, by omega, by go_num, Lib.hid (by rw [HS.out, hall.out, hstep]; rfl)⟩
        case measure => simp [intOf]; omega
    · obtain rfl : k = s.size := by omega
      have hend := hall.out
      rw [all_end, HV.out] at hend
      subst hend
      go_wp2
      go_ret
      exact ⟨rfl, rfl⟩
set_option maxHeartbeats 1000000 in
theorem right_ref (s : ByteArray) (w : World) (hs : s.size ≤ maxLen) : Calls Tryd.prog 26 #[.string s] w (Same (.bool (s.data.toList.all shownC)) w) := by
  unfold maxLen at hs
  obtain ⟨V, hV⟩ : ∃ V, s.data.toList.all shownC = V := ⟨_, rfl⟩
  rw [hV]
  have HV := Lib.hid hV; clear hV
  go_enter Tryd.func26, Tryd.ntmps26
  go_wp2
  go_loop [3] (fun i => ∃ k : Nat, k ≤ s.size ∧ i = .int .i64 k ∧ Hid ((s.data.toList.take k).all shownC = true)) (fun i => s.size - (intOf i).toNat)
  case atStart => exact ⟨0, Nat.zero_le _, rfl, Lib.hid rfl⟩
  case round =>
    obtain ⟨k, hk, rfl, hall⟩ := hrel
    by_cases hlt : k < s.size
    · have hst := take_all shownC s k hlt
      have hbad := all_bad shownC s k hlt
      rw [HV.out] at hbad
      generalize hc : s[k] = c at *
      have HS := Lib.hid hst; have HB := Lib.hid hbad; clear hst hbad
      go_wp2
      all_goals (try (go_ret; exact ⟨r1 (vb (HB.out (by (clear hc HS HB hall); (go_light; revert c; decide +kernel))).symm), rfl⟩))
      all_goals
        have hstep : shownC c = true := by (clear hc HS HB hall); (go_light; revert c; decide +kernel)
        go_round
        case rel => exact ⟨k + 1, by omega, by go_num, Lib.hid (by rw [HS.out, hall.out, hstep]; rfl)⟩
        case measure => simp [intOf]; omega
    · obtain rfl : k = s.size := by omega
      have hend := hall.out
      rw [all_end, HV.out] at hend
      subst hend
      go_wp2
      go_ret
      exact ⟨rfl, rfl⟩
theorem name_facts (l : List UInt8) : nameL l = (!l.isEmpty && decide (l.length ≤ 32) && l.all nameC) := rfl
set_option maxHeartbeats 1000000 in
theorem named_any (s : ByteArray) (w : World) (hs : s.size ≤ maxLen) : Calls Tryd.prog 23 #[.string s] w (Same (.bool (nameL s.data.toList)) w) := by
  unfold maxLen at hs
  obtain ⟨V, hV⟩ : ∃ V, nameL s.data.toList = V := ⟨_, rfl⟩
  rw [hV]
  have hbadV : s.data.toList.all nameC = false → V = false := by intro h; rw [← hV, nameL, h, Bool.and_false]
  have hendV : s.data.toList.all nameC = true → V = (!s.data.toList.isEmpty && decide (s.data.toList.length ≤ 32)) := by intro h; rw [← hV, nameL, h, Bool.and_true]
  have HV := Lib.hid hbadV; have HE := Lib.hid hendV; clear hV hbadV hendV
  go_enter Tryd.func23, Tryd.ntmps23
  go_wp2
  go_loop [3, 4, 7] (fun _ _ i => ∃ k : Nat, k ≤ s.size ∧ i = .int .i64 k ∧ Hid ((s.data.toList.take k).all nameC = true)) (fun _ _ i => s.size - (intOf i).toNat)
  case atStart => exact ⟨0, Nat.zero_le _, rfl, Lib.hid rfl⟩
  case round =>
    obtain ⟨k, hk, rfl, hall⟩ := hrel
    by_cases hlt : k < s.size
    · have hst := take_all nameC s k hlt
      have hbad := fun h => HV.out (all_bad nameC s k hlt h)
      generalize hc : s[k] = c at *
      have HS := Lib.hid hst; have HB := Lib.hid hbad; clear hst hbad
      go_wp2
      all_goals (try (go_ret; exact ⟨r1 (vb (HB.out (by (clear hc HS HB hall); (go_light; revert c; decide +kernel))).symm), rfl⟩))
      all_goals
        have hstep : nameC c = true := by (clear hc HS HB hall); (go_light; revert c; decide +kernel)
        go_round
        case rel => exact ⟨k + 1, by omega, by go_num, Lib.hid (by rw [HS.out, hall.out, hstep]; rfl)⟩
        case measure => simp [intOf]; omega
    · obtain rfl : k = s.size := by omega
      have hend := hall.out
      rw [all_end] at hend
      have hVe := HE.out hend
      have HVE := Lib.hid hVe; clear hend hVe
      go_wp2
      all_goals go_ret
      all_goals refine ⟨r1 (vb ?_), rfl⟩
      all_goals (rw [HVE.out, ← ByteArray.toList_eq])
      · rename_i h _; rw [h]; rfl
      · rw [ByteArray.toList_eq, show s.data.toList.length = s.size from rfl]
        congr 1; rw [decide_eq_decide]; omega
set_option maxHeartbeats 1000000 in
theorem name_ref (s : ByteArray) (w : World) (hs : s.size ≤ maxLen) : Calls Tryd.prog 28 #[.string s] w (Same (.bool (nameL s.data.toList)) w) := by
  unfold maxLen at hs
  obtain ⟨V, hV⟩ : ∃ V, nameL s.data.toList = V := ⟨_, rfl⟩
  rw [hV]
  by_cases hlen : s.size < 1 ∨ 32 < s.size
  · have hv0 : V = false := by
      rw [← hV, nameL]
      rcases hlen with h | h
      · have : s.data.toList = [] := List.eq_nil_of_length_eq_zero (by show s.size = 0; omega)
        rw [this]; rfl
      · rw [show s.data.toList.length = s.size from rfl, show decide (s.size ≤ 32) = false by simp; omega]; simp
    subst hv0
    clear hV
    by_cases h1 : s.size < 1
    · have h1' : (s.size : Int) < 1 := by omega
      clear hlen
      go_enter Tryd.func28, Tryd.ntmps28
      go_wp2
      go_ret
      exact ⟨rfl, rfl⟩
    · have h2' : (32 : Int) < s.size := by omega
      clear hlen
      go_enter Tryd.func28, Tryd.ntmps28
      go_wp2
      go_ret
      exact ⟨rfl, rfl⟩
  · have hVa : V = s.data.toList.all nameC := by
      rw [← hV, nameL, show s.data.toList.length = s.size from rfl, show decide (s.size ≤ 32) = true by simp; omega]
      have : s.data.toList.isEmpty = false := by
        rcases h : s.data.toList with _ | ⟨c, r⟩
        · have : s.size = 0 := congrArg List.length h
          omega
        · rfl
      rw [this]; simp
    have HV := Lib.hid hVa.symm; clear hV hVa
    have h1' : ¬ (s.size : Int) < 1 := by omega
    have h2' : ¬ (32 : Int) < s.size := by omega
    go_enter Tryd.func28, Tryd.ntmps28
    go_wp2
    go_loop [3, 4] (fun i _ => ∃ k : Nat, k ≤ s.size ∧ i = .int .i64 k ∧ Hid ((s.data.toList.take k).all nameC = true)) (fun i _ => s.size - (intOf i).toNat)
    case atStart => exact ⟨0, Nat.zero_le _, rfl, Lib.hid rfl⟩
    case round =>
      obtain ⟨k, hk, rfl, hall⟩ := hrel
      by_cases hlt : k < s.size
      · have hst := take_all nameC s k hlt
        have hbad := all_bad nameC s k hlt
        rw [HV.out] at hbad
        generalize hc : s[k] = c at *
        have HS := Lib.hid hst; have HB := Lib.hid hbad; clear hst hbad
        go_wp2
        all_goals (try (go_ret; exact ⟨r1 (vb (HB.out (by (clear hc HS HB hall); (go_light; revert c; decide +kernel))).symm), rfl⟩))
        all_goals
          have hstep : nameC c = true := by (clear hc HS HB hall); (go_light; revert c; decide +kernel)
          go_round
          case rel => exact ⟨k + 1, by omega, by go_num, Lib.hid (by rw [HS.out, hall.out, hstep]; rfl)⟩
          case measure => simp [intOf]; omega
      · obtain rfl : k = s.size := by omega
        have hend := hall.out
        rw [all_end, HV.out] at hend
        subst hend
        go_wp2
        go_ret
        exact ⟨rfl, rfl⟩
theorem foldL_snoc (l : List UInt8) (c : UInt8) : foldL (l ++ [c]) = foldL l ++ [foldC c] := by simp [foldL]
theorem take_snocB (s : ByteArray) (k : Nat) (h : k < s.size) : s.data.toList.take (k + 1) = s.data.toList.take k ++ [s[k]] := by
  rw [List.take_succ_eq_append_getElem (by simpa using h)]; rfl
set_option maxHeartbeats 1000000 in
theorem fold_ref (s : ByteArray) (w : World) (hs : s.size ≤ 1000000) : Calls Tryd.prog 41 #[.string s] w (Ret (.string ⟨(foldL s.data.toList).toArray⟩) w) := by
  have hlen : s.data.toList.length = s.size := rfl
  have HL := Lib.hid hlen; clear hlen
  go_enter Tryd.func41, Tryd.ntmps41
  go_wp2
  go_loopw [3, 4, 5] (fun v i _ wr => ∃ (k : Nat) (acc : List UInt8), k ≤ s.size ∧ i = .int .i64 k ∧ acc.length = k ∧ OwnB w.heap.size 5 v acc wr ∧ Below w.heap.size w wr ∧ Hid (acc = foldL (s.data.toList.take k)))
    (fun _ i _ _ => s.size - (intOf i).toNat)
  case atStart => exact ⟨0, [], Nat.zero_le _, rfl, rfl, OwnB.made w (Nat.le_refl _) _ _ rfl (by decide), (Below.refl _ _).alloc (Nat.le_refl _) _, Lib.hid rfl⟩
  case round =>
    obtain ⟨k, acc, hk, rfl, hal, hown, hbel, hacc⟩ := hrel
    by_cases hlt : k < s.size
    · have hst : foldL (s.data.toList.take (k + 1)) = acc ++ [foldC s[k]] := by rw [take_snocB s k hlt, foldL_snoc, hacc.out]
      generalize hc : s[k] = c at *
      obtain ⟨d, hd⟩ : ∃ d, foldC c = d := ⟨_, rfl⟩
      rw [hd] at hst
      have HS := Lib.hid hst
      have hal' : acc.length ≤ 1000000 := by omega
      have HAL := Lib.hid hal; clear hal hst
      by_cases hup : 65 ≤ c ∧ c ≤ 90
      · have f1 : (65 : Int) ≤ c.toNat := by have := UInt8.le_iff_toNat_le.1 hup.1; exact Int.ofNat_le.2 this
        have f2 : (c.toNat : Int) ≤ 90 := by have := UInt8.le_iff_toNat_le.1 hup.2; exact Int.ofNat_le.2 this
        have f3 : (c.toNat : Int) + 32 = d.toNat := by rw [← hd]; clear hd hc HS HAL hacc hown hbel; revert c; decide +kernel
        clear hd hup
        go_wp2_with (at_builtin; refine pushb (by rfl) _ _ _ (by rfl) 5 Tryd.underlying35 infoByte w.heap.size wr _ _ (by rfl) hown d (by rfl) (by omega) hbel.size ?_; intro g cap w1 hg hown1 hgr hb1 hsz1)
        go_roundw
        case rel => exact ⟨k + 1, acc ++ [d], by omega, by go_num, by have := HAL.out; simp; omega, hown1, hbel.trans hb1, Lib.hid HS.out.symm⟩
        case measure => simp [intOf]; omega
      · have f1 : ¬ ((65 : Int) ≤ c.toNat ∧ (c.toNat : Int) ≤ 90) := by
          intro h; apply hup
          exact ⟨UInt8.le_iff_toNat_le.2 (Int.ofNat_le.1 h.1), UInt8.le_iff_toNat_le.2 (Int.ofNat_le.1 h.2)⟩
        have f3 : d = c := by rw [← hd, foldC]; rw [if_neg]; simpa using hup
        subst f3
        clear hd hup
        by_cases f2 : (65 : Int) ≤ d.toNat
        all_goals
          go_wp2_with (at_builtin; refine pushb (by rfl) _ _ _ (by rfl) 5 Tryd.underlying35 infoByte w.heap.size wr _ _ (by rfl) hown d (by rfl) (by omega) hbel.size ?_; intro g cap w1 hg hown1 hgr hb1 hsz1)
          go_roundw
          case rel => exact ⟨k + 1, acc ++ [d], by omega, by go_num, by have := HAL.out; simp; omega, hown1, hbel.trans hb1, Lib.hid HS.out.symm⟩
          case measure => simp [intOf]; omega
    · obtain rfl : k = s.size := by omega
      have hfin : acc = foldL s.data.toList := by rw [hacc.out, List.take_of_length_le (by rw [HL.out]; exact Nat.le_refl _)]
      have HF := Lib.hid hfin; clear hfin
      have kc := conv_own (P := Tryd.prog) Tryd.underlying35 Tryd.underlying5 Tryd.underlying9 hown
      go_wp2
      go_ret
      exact ⟨r1 (by rw [HF.out]; rfl), hbel⟩
end Go.Proofs.YtdfflbpifpoogaaDoor
