/- octet.Fold, Alike; the reference's Begins, Trim; octet.Trim. -/
import Derived.Test.YtdfflbpifpoogaaDoorOcf
import Derived.Test.YtdfflbpifpoogaaDoorByt
set_option linter.unusedVariables false
set_option synthInstance.maxSize 4000
namespace Go.Proofs.YtdfflbpifpoogaaDoor
open Go.RowKit Nun
theorem fold_set (s : List UInt8) (k : Nat) (h : k < s.length) : foldL (s.take (k + 1)) ++ s.drop (k + 1) = (foldL (s.take k) ++ s.drop k).set k (foldC s[k]) := by
  have hl : (foldL (s.take k)).length = k := by simp [foldL]; omega
  rw [List.take_succ_eq_append_getElem h, foldL_snoc, List.drop_eq_getElem_cons h, List.append_assoc, List.set_append_right _ _ (by omega), hl]
  simp only [Nat.sub_self, List.set_cons_zero, List.singleton_append]
set_option maxHeartbeats 1000000 in
theorem fold_octet (s : ByteArray) (w : World) (hs : s.size ≤ 1000000) : Calls Tryd.prog 50 #[.string s] w (Ret (.string ⟨(foldL s.data.toList).toArray⟩) w) := by
  have hlen : s.data.toList.length = s.size := rfl
  have HL := Lib.hid hlen; clear hlen
  obtain ⟨cap, w1, hconv, hcap, hby, hbel⟩ := bytes_made (P := Tryd.prog) w 9 35 5 s Tryd.underlying9 Tryd.underlying35 Tryd.underlying5
  obtain ⟨B, hB⟩ : ∃ B, w.heap.size = B := ⟨_, rfl⟩
  rw [hB] at hconv hby hbel
  have HB := Lib.hid hB; clear hB
  have HBy := Lib.hid hby; clear hby
  have hbel' : Below w.heap.size w w1 := by rw [HB.out]; exact hbel
  go_enter Tryd.func50, Tryd.ntmps50
  go_wp2
  go_loopw [4, 5, 10] (fun _ _ i wr => ∃ (k : Nat) (l : List UInt8), k ≤ s.size ∧ i = .int .i64 k ∧ l.length = s.size ∧ BytesAt B l wr ∧ Below B w wr ∧ Hid (l = foldL (s.data.toList.take k) ++ s.data.toList.drop k))
    (fun _ _ i _ => s.size - (intOf i).toNat)
  case atStart => exact ⟨0, s.data.toList, Nat.zero_le _, rfl, rfl, HBy.out, hbel, Lib.hid rfl⟩
  case round =>
    obtain ⟨k, l, hk, rfl, hll, hb, hbl, hl⟩ := hrel
    by_cases hlt : k < s.size
    · have hst := fold_set s.data.toList k hlt
      rw [← hl.out] at hst
      have hget : l[k]? = some s[k] := by
        rw [hl.out, List.getElem?_append_right (by simp [foldL]; omega)]
        simp [foldL]
        rw [show min k s.size = k by omega]; simp
        exact Array.getElem?_eq_getElem hlt
      have hkl : k < l.length := by omega
      have hsk : s.data.toList[k]'hlt = s[k] := rfl
      rw [hsk] at hst
      clear hsk
      have hlk : l[k]'hkl = s[k] := (List.getElem?_eq_some_iff.1 hget).2
      generalize hc : s[k] = c at *
      obtain ⟨d, hd⟩ : ∃ d, foldC c = d := ⟨_, rfl⟩
      rw [hd] at hst
      obtain ⟨hcell, hfr⟩ := hb.2 k c hget
      have HS := Lib.hid hst; have HLL := Lib.hid hll; have HK := Lib.hid hlk; clear hst hget hll hlk
      by_cases hup : 65 ≤ c ∧ c ≤ 90
      · have f1 : (65 : Int) ≤ c.toNat := by have := UInt8.le_iff_toNat_le.1 hup.1; exact Int.ofNat_le.2 this
        have f2 : (c.toNat : Int) ≤ 90 := by have := UInt8.le_iff_toNat_le.1 hup.2; exact Int.ofNat_le.2 this
        have f3 : bits .or .u8 (c.toNat : Int) 32 = d.toNat := by rw [← hd]; clear hd hc HS HLL hl hb hbl hcell hfr HK; revert c; decide +kernel
        have hb2 := hb.put k hkl d
        have HB2 := Lib.hid hb2
        clear hd hup hb2
        go_wp2
        go_roundw
        case rel => exact ⟨k + 1, l.set k d, by omega, by go_num, by have := HLL.out; simp; omega, HB2.out, hbl.setCell (Nat.le_refl _) _, Lib.hid HS.out.symm⟩
        case measure => simp [intOf]; omega
      · have f1 : ¬ ((65 : Int) ≤ c.toNat ∧ (c.toNat : Int) ≤ 90) := by
          intro h; apply hup
          exact ⟨UInt8.le_iff_toNat_le.2 (Int.ofNat_le.1 h.1), UInt8.le_iff_toNat_le.2 (Int.ofNat_le.1 h.2)⟩
        have f3 : d = c := by rw [← hd, foldC]; rw [if_neg]; simpa using hup
        have hsame : l.set k d = l := by
          rw [f3, ← HK.out]; exact List.set_getElem_self hkl
        have HSame := Lib.hid hsame
        subst f3
        clear hd hup hsame
        by_cases f2 : (65 : Int) ≤ d.toNat
        all_goals (try have f3 : (90 : Int) < d.toNat := by omega)
        all_goals clear f1
        all_goals clear hc hconv
        all_goals
          go_wp2
          go_roundw
          case rel => exact ⟨k + 1, l, by omega, by go_num, HLL.out, hb, hbl, Lib.hid (by rw [HS.out, HSame.out])⟩
          case measure => simp [intOf]; omega
    · obtain rfl : k = s.size := by omega
      have hfin : l = foldL s.data.toList := by rw [hl.out, List.take_of_length_le (by rw [HL.out]; exact Nat.le_refl _), List.drop_of_length_le (by rw [HL.out]; exact Nat.le_refl _), List.append_nil]
      have HF := Lib.hid hfin; clear hfin
      have kc := hb.back (P := Tryd.prog) Tryd.underlying35 Tryd.underlying5 Tryd.underlying9 cap
      rw [hll] at kc
      go_wp2
      go_ret
      exact ⟨r1 (by rw [HF.out]; rfl), by rw [HB.out]; exact hbl⟩
theorem foldL_len (l : List UInt8) : (foldL l).length = l.length := by simp [foldL]
theorem fold_of (s : ByteArray) (l : List UInt8) (h : foldL s.data.toList = l) (w : World) (hs : s.size ≤ 1000000) : Calls Tryd.prog 50 #[.string s] w (Ret (.string ⟨l.toArray⟩) w) := h ▸ fold_octet s w hs
theorem foldr_of (s : ByteArray) (l : List UInt8) (h : foldL s.data.toList = l) (w : World) (hs : s.size ≤ 1000000) : Calls Tryd.prog 41 #[.string s] w (Ret (.string ⟨l.toArray⟩) w) := h ▸ fold_ref s w hs
set_option maxHeartbeats 1000000 in
theorem alike_any (s t : ByteArray) (w : World) (hs : s.size ≤ 1000000) (ht : t.size ≤ 1000000) : Calls Tryd.prog 36 #[.string s, .string t] w (Ret (.bool (foldL s.data.toList == foldL t.data.toList)) w) := by
  have hl1 := foldL_len s.data.toList
  have hl2 := foldL_len t.data.toList
  obtain ⟨x, hx⟩ : ∃ x, foldL s.data.toList = x := ⟨_, rfl⟩
  obtain ⟨y, hy⟩ : ∃ y, foldL t.data.toList = y := ⟨_, rfl⟩
  rw [hx] at hl1 ⊢; rw [hy] at hl2 ⊢
  have hX := Lib.hid hx; have hY := Lib.hid hy; clear hx hy
  by_cases hlen : s.size = t.size
  · obtain ⟨b, hb⟩ : ∃ b, (x == y) = b := ⟨_, rfl⟩
    rw [hb]
    have hb2 : ((⟨x.toArray⟩ : ByteArray).toList == (⟨y.toArray⟩ : ByteArray).toList) = b := by rw [ByteArray.toList_eq, ByteArray.toList_eq]; exact hb
    have hse : ((s.size : Int) == (t.size : Int)) = true := by rw [hlen]; simp
    clear hlen hl1 hl2
    have HB := Lib.hid hb; have HB2 := Lib.hid hb2; clear hb hb2
    go_enter Tryd.func36, Tryd.ntmps36
    go_wp2_with (go_at_call 50; first | ((with_reducible refine (fold_of s x hX.out _ hs).mono ?_); rintro e w1 ⟨rfl, hb1⟩) | ((with_reducible refine (fold_of t y hY.out _ ht).mono ?_); rintro e w2 ⟨rfl, hb2⟩))
    go_ret
    exact ⟨r1 (vb HB.out), below_of hb1 hb2⟩
  · have hf : (x == y) = false := by
      rw [beq_eq_false_iff_ne]; intro h
      have := congrArg List.length h
      rw [hl1, hl2] at this
      exact hlen this
    rw [hf]
    have hse : ((s.size : Int) == (t.size : Int)) = false := by rw [beq_eq_false_iff_ne]; omega
    clear hlen hl1 hl2 hf
    go_enter Tryd.func36, Tryd.ntmps36
    go_wp2
    go_ret
    exact ⟨rfl, Below.refl _ _⟩
end Go.Proofs.YtdfflbpifpoogaaDoor
namespace Nun
theorem trimEnd_snoc (l : List UInt8) (c : UInt8) : trimEnd (l ++ [c]) = if blankC c then trimEnd l else l ++ [c] := by
  unfold trimEnd
  rw [List.reverse_append, List.reverse_singleton, List.singleton_append, List.dropWhile_cons]
  cases blankC c <;> simp
theorem dropWhile_nil (p : UInt8 → Bool) : ∀ l : List UInt8, l.dropWhile p = [] ↔ l.all p = true
  | [] => by simp
  | c :: l => by
    rw [List.dropWhile_cons, List.all_cons, Bool.and_eq_true]
    cases h : p c
    · simp
    · simpa using dropWhile_nil p l
theorem trimEnd_cons (c : UInt8) (l : List UInt8) : trimEnd (c :: l) = if l.all blankC && blankC c then [] else c :: trimEnd l := by
  unfold trimEnd
  rw [List.reverse_cons, List.dropWhile_append]
  have ha : (l.reverse.dropWhile blankC).isEmpty = l.all blankC := by
    rw [Bool.eq_iff_iff, List.isEmpty_iff, dropWhile_nil, List.all_reverse]
  rw [ha]
  cases h : l.all blankC
  · simp
  · have h0 : l.reverse.dropWhile blankC = [] := (dropWhile_nil _ _).2 (by rw [List.all_reverse]; exact h)
    rw [h0]
    cases hb : blankC c <;> simp [hb]
theorem trim_comm (l : List UInt8) : (trimEnd l).dropWhile blankC = trimEnd (l.dropWhile blankC) := by
  induction l with
  | nil => rfl
  | cons c l ih =>
    rw [trimEnd_cons, List.dropWhile_cons]
    cases hb : blankC c
    · simp [hb, trimEnd_cons]
    · cases ha : l.all blankC
      · simp [hb, ih]
      · have : l.dropWhile blankC = [] := (dropWhile_nil _ _).2 ha
        simp [this, trimEnd]
theorem blank_set (c : UInt8) : ([32, 9] : List UInt8).contains c = blankC c := by
  rw [Bool.eq_iff_iff]; simp [blankC]
theorem trimS_blank (l : List UInt8) : Go.Lib.trimS l [32, 9] = trimB l := by
  unfold Go.Lib.trimS Go.Lib.trimLeftS Go.Lib.trimRightS trimB
  simp only [blank_set]
  exact trim_comm l
theorem trimLeftS_blank (l : List UInt8) : Go.Lib.trimLeftS l [32, 9] = l.dropWhile blankC := by
  unfold Go.Lib.trimLeftS
  simp only [blank_set]
theorem drop_one (t : ByteArray) (h : 0 < t.size) : t.data.toList = t[0] :: (t.extract 1 t.size).data.toList := by
  have h' : 0 < t.data.toList.length := h
  have e := List.drop_eq_getElem_cons h'
  rw [List.drop_zero] at e
  rw [Go.Lib.extract_data, List.take_of_length_le (by rw [List.length_drop]; show t.size - 1 ≤ t.size - 1; omega)]
  exact e
theorem drop_last (t : ByteArray) (h : 0 < t.size) : t.data.toList = (t.extract 0 (t.size - 1)).data.toList ++ [t[t.size - 1]] := by
  have h' : t.size - 1 < t.data.toList.length := by show t.size - 1 < t.size; omega
  have e := List.take_succ_eq_append_getElem h'
  rw [show t.size - 1 + 1 = t.size by omega, List.take_of_length_le (by show t.size ≤ t.size; omega)] at e
  rw [Go.Lib.extract_data, List.drop_zero, Nat.sub_zero]
  exact e
/-- A text stands at a place of another one. -/
def begL (s x : List UInt8) (k : Nat) : Bool := decide (k ≤ s.length) && ((s.drop k).take x.length == x)
end Nun
namespace Go.Proofs.YtdfflbpifpoogaaDoor
open Go.RowKit Nun
set_option maxHeartbeats 1000000 in
theorem trim_octet (s : ByteArray) (w : World) (hs : s.size ≤ 1000000000) : Calls Tryd.prog 24 #[.string s] w (Ret (.string ⟨(trimB s.data.toList).toArray⟩) w) := by
  have h := Any.strings_Trim_laid Tryd.lays160 (by kernel_rfl) s ⟨#[32, 9]⟩ w (by omega) (by decide) (ascii_of_all (by decide))
  rw [show (ByteArray.mk #[32, 9]).data.toList = [32, 9] from rfl, trimS_blank] at h
  have H := Lib.hid h; clear h
  go_enter Tryd.func24, Tryd.ntmps24
  go_wp2_with (go_at_call 44; refine H.out.mono ?_; rintro e w1 ⟨rfl, hb1⟩)
  go_ret
  exact ⟨rfl, hb1⟩
set_option maxHeartbeats 1000000 in
theorem trim_ref (s : ByteArray) (w : World) (hs : s.size ≤ 1000000000) : Calls Tryd.prog 29 #[.string s] w (Same (.string ⟨(trimB s.data.toList).toArray⟩) w) := by
  obtain ⟨D, hD⟩ : ∃ D, s.data.toList.dropWhile blankC = D := ⟨_, rfl⟩
  obtain ⟨V, hV⟩ : ∃ V, trimEnd D = V := ⟨_, rfl⟩
  have hVV : trimB s.data.toList = V := by rw [trimB, hD, hV]
  rw [hVV]
  have HD := Lib.hid hD; have HV := Lib.hid hV; clear hD hV hVV
  go_enter Tryd.func29, Tryd.ntmps29
  go_wp2
  go_loop [0] (fun v => ∃ t : ByteArray, v = .string t ∧ t.size ≤ 1000000000 ∧ Hid (t.data.toList.dropWhile blankC = D)) (fun v => match v with | .string t => t.size | _ => 0)
  case atStart => exact ⟨s, rfl, hs, HD⟩
  case round =>
    obtain ⟨t, rfl, ht, hd⟩ := hrel
    have hcase : (∃ h : 0 < t.size, blankC t[0] = true) ∨ ((t.size = 0 ∨ ∃ h : 0 < t.size, blankC t[0] = false) ∧ t.data.toList = D) := by
      by_cases hpos : 0 < t.size
      · have hcons := drop_one t hpos
        by_cases hb : blankC t[0] = true
        · exact .inl ⟨hpos, hb⟩
        · refine .inr ⟨.inr ⟨hpos, by simpa using hb⟩, ?_⟩
          rw [← hd.out]; conv => rhs; rw [hcons, List.dropWhile_cons, if_neg hb]
          exact hcons
      · refine .inr ⟨.inl (by omega), ?_⟩
        rw [← hd.out, List.eq_nil_of_length_eq_zero (l := t.data.toList) (by show t.size = 0; omega)]; rfl
    rcases hcase with ⟨hpos, hb⟩ | ⟨hor, hT⟩
    · have hcons := drop_one t hpos
      have hstep : (t.extract 1 t.size).data.toList.dropWhile blankC = D := by rw [← hd.out, hcons, List.dropWhile_cons, hb]; rfl
      have HS := Lib.hid hstep
      have hb2 : ((t[0].toNat : Int) == 32) = true ∨ ((t[0].toNat : Int) == 32) = false ∧ ((t[0].toNat : Int) == 9) = true := by
        clear hcons hstep HS; revert hb; generalize t[0] = c; clear hd; revert c; decide +kernel
      have hxs : (t.extract 1 t.size).size = t.size - 1 := by rw [ByteArray.size_extract]; omega
      clear hcons hb hstep
      rcases hb2 with q1 | ⟨q1, q2⟩
      all_goals
        go_wp2
        go_round
        case rel => exact ⟨_, rfl, by omega, HS⟩
        case measure => simp; omega
    · have HT := Lib.hid hT
      clear hT hd
      rcases hor with h0 | ⟨hpos, hb⟩
      case inr =>
        have hb2 : ((t[0].toNat : Int) == 32) = false ∧ ((t[0].toNat : Int) == 9) = false := by
          clear HT; revert hb; generalize t[0] = c; revert c; decide +kernel
        obtain ⟨q1, q2⟩ := hb2
        clear hb
        go_wp2
        go_loop [0] (fun v => ∃ u : ByteArray, v = .string u ∧ u.size ≤ 1000000000 ∧ Hid (trimEnd u.data.toList = V)) (fun v => match v with | .string t => t.size | _ => 0)
        case atStart => exact ⟨t, rfl, ht, Lib.hid (by rw [HT.out]; exact HV.out)⟩
        case round =>
          obtain ⟨u, rfl, hu, hd⟩ := hrel
          by_cases hup : 0 < u.size
          · have hlast := drop_last u hup
            by_cases hbu : blankC (u[u.size - 1]'(by omega)) = true
            · have hstep : trimEnd (u.extract 0 (u.size - 1)).data.toList = V := by rw [← hd.out, hlast, trimEnd_snoc, if_pos hbu]
              have HS := Lib.hid hstep
              have hb2 : (((u[u.size - 1]'(by omega)).toNat : Int) == 32) = true ∨ (((u[u.size - 1]'(by omega)).toNat : Int) == 32) = false ∧ (((u[u.size - 1]'(by omega)).toNat : Int) == 9) = true := by
                clear hlast hstep HS; revert hbu; generalize u[u.size - 1]'(by omega) = c; clear hd HT; revert c; decide +kernel
              have hxs : (u.extract 0 (u.size - 1)).size = u.size - 1 := by rw [ByteArray.size_extract]; omega
              clear hlast hbu hstep
              rcases hb2 with q3 | ⟨q3, q4⟩
              all_goals
                go_wp2
                go_round
                case rel => exact ⟨_, rfl, by omega, HS⟩
                case measure => simp; omega
            · have hT : u.data.toList = V := by
                rw [← hd.out]; conv => rhs; rw [hlast, trimEnd_snoc, if_neg hbu]
                exact hlast
              have HU := Lib.hid hT
              have hb2 : (((u[u.size - 1]'(by omega)).toNat : Int) == 32) = false ∧ (((u[u.size - 1]'(by omega)).toNat : Int) == 9) = false := by
                clear hlast hT HU; revert hbu; generalize u[u.size - 1]'(by omega) = c; clear hd HT; revert c; decide +kernel
              obtain ⟨q3, q4⟩ := hb2
              clear hlast hbu hT
              go_wp2
              go_ret
              exact ⟨r1 (vS HU.out), rfl⟩
          · have hT : u.data.toList = V := by
              rw [← hd.out, List.eq_nil_of_length_eq_zero (l := u.data.toList) (by show u.size = 0; omega)]; rfl
            have HU := Lib.hid hT
            have h1' : ¬ (0 : Int) < u.size := by omega
            clear hT
            go_wp2
            go_ret
            exact ⟨r1 (vS HU.out), rfl⟩
      case inl =>
        have h0' : ¬ (0 : Int) < t.size := by omega
        clear h0
        go_wp2
        go_loop [0] (fun v => ∃ u : ByteArray, v = .string u ∧ u.size ≤ 1000000000 ∧ Hid (trimEnd u.data.toList = V)) (fun v => match v with | .string t => t.size | _ => 0)
        case atStart => exact ⟨t, rfl, ht, Lib.hid (by rw [HT.out]; exact HV.out)⟩
        case round =>
          obtain ⟨u, rfl, hu, hd⟩ := hrel
          by_cases hup : 0 < u.size
          · have hlast := drop_last u hup
            by_cases hbu : blankC (u[u.size - 1]'(by omega)) = true
            · have hstep : trimEnd (u.extract 0 (u.size - 1)).data.toList = V := by rw [← hd.out, hlast, trimEnd_snoc, if_pos hbu]
              have HS := Lib.hid hstep
              have hb2 : (((u[u.size - 1]'(by omega)).toNat : Int) == 32) = true ∨ (((u[u.size - 1]'(by omega)).toNat : Int) == 32) = false ∧ (((u[u.size - 1]'(by omega)).toNat : Int) == 9) = true := by
                clear hlast hstep HS; revert hbu; generalize u[u.size - 1]'(by omega) = c; clear hd HT; revert c; decide +kernel
              have hxs : (u.extract 0 (u.size - 1)).size = u.size - 1 := by rw [ByteArray.size_extract]; omega
              clear hlast hbu hstep
              rcases hb2 with q3 | ⟨q3, q4⟩
              all_goals
                go_wp2
                go_round
                case rel => exact ⟨_, rfl, by omega, HS⟩
                case measure => simp; omega
            · have hT : u.data.toList = V := by
                rw [← hd.out]; conv => rhs; rw [hlast, trimEnd_snoc, if_neg hbu]
                exact hlast
              have HU := Lib.hid hT
              have hb2 : (((u[u.size - 1]'(by omega)).toNat : Int) == 32) = false ∧ (((u[u.size - 1]'(by omega)).toNat : Int) == 9) = false := by
                clear hlast hT HU; revert hbu; generalize u[u.size - 1]'(by omega) = c; clear hd HT; revert c; decide +kernel
              obtain ⟨q3, q4⟩ := hb2
              clear hlast hbu hT
              go_wp2
              go_ret
              exact ⟨r1 (vS HU.out), rfl⟩
          · have hT : u.data.toList = V := by
              rw [← hd.out, List.eq_nil_of_length_eq_zero (l := u.data.toList) (by show u.size = 0; omega)]; rfl
            have HU := Lib.hid hT
            have h1' : ¬ (0 : Int) < u.size := by omega
            clear hT
            go_wp2
            go_ret
            exact ⟨r1 (vS HU.out), rfl⟩
set_option maxHeartbeats 1000000 in
theorem begins_ref (s x : ByteArray) (k : Nat) (w : World) (hs : s.size ≤ 1000000000) (hx : x.size ≤ 1000000000) (hk : k ≤ 1000000000) : Calls Tryd.prog 39 #[.string s, .string x, .int .i64 k] w (Same (.bool (begL s.data.toList x.data.toList k)) w) := by
  obtain ⟨V, hV⟩ : ∃ V, begL s.data.toList x.data.toList k = V := ⟨_, rfl⟩
  rw [hV]
  by_cases h1 : k ≤ s.size
  · by_cases h2 : x.size ≤ s.size - k
    · have h2' : (x.size : Int) ≤ s.size - k := by omega
      have hv : V = ((s.extract k (k + x.size)).toList == x.toList) := by
        rw [← hV, begL, show decide (k ≤ s.data.toList.length) = true by simp; exact h1, Bool.true_and, ByteArray.toList_eq, ByteArray.toList_eq, Lib.extract_data, Nat.add_sub_cancel_left]; rfl
      have HV := Lib.hid hv; clear hV hv
      go_enter Tryd.func39, Tryd.ntmps39
      go_wp2
      go_ret
      exact ⟨r1 (vb HV.out.symm), rfl⟩
    · have h2' : ¬ (x.size : Int) ≤ s.size - k := by omega
      have hv : V = false := by
        rw [← hV, begL, Bool.and_eq_false_iff]; right
        rw [beq_eq_false_iff_ne]; intro h
        have := congrArg List.length h
        rw [List.length_take, List.length_drop, show s.data.toList.length = s.size from rfl, show x.data.toList.length = x.size from rfl] at this
        omega
      subst hv
      clear hV
      go_enter Tryd.func39, Tryd.ntmps39
      go_wp2
      go_ret
      exact ⟨rfl, rfl⟩
  · have h1' : ¬ (k : Int) ≤ s.size := by omega
    have hv : V = false := by
      rw [← hV, begL, show decide (k ≤ s.data.toList.length) = false by simp; exact Nat.lt_of_not_le h1]; rfl
    subst hv
    clear hV
    go_enter Tryd.func39, Tryd.ntmps39
    go_wp2
    go_ret
    exact ⟨rfl, rfl⟩
end Go.Proofs.YtdfflbpifpoogaaDoor
