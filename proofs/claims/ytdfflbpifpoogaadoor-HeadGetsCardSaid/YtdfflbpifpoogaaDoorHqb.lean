/- The reference's Params. -/
import Derived.Test.YtdfflbpifpoogaaDoorHqa
import Derived.Test.YtdfflbpifpoogaaDoorHpy
set_option linter.unusedVariables false
set_option synthInstance.maxSize 4000
namespace Nun
open Go Go.RowKit
theorem beq_swap (a b : List UInt8) : (a == b) = (b == a) := by
  rw [Bool.eq_iff_iff, beq_iff_eq, beq_iff_eq]; exact eq_comm
theorem any_swap (k : List UInt8) (F : List Fld) : F.any (fun x => foldL k == foldL x.1) = F.any (fun x => foldL x.1 == foldL k) := by
  congr 1; funext x; exact beq_swap _ _
theorem sign_cons {l : List UInt8} {k : Nat} (c : UInt8) (h : k < l.length) : signL c (l.drop k) = if l[k] = c then some (l.drop (k + 1)) else none := by
  rw [List.drop_eq_getElem_cons h, signL]
theorem b59 : ∀ c : UInt8, ¬ c = 59 → ((c.toNat : Int) != 59) = true := by decide +kernel
theorem b59o : ∀ c : UInt8, c = 59 → ((c.toNat : Int) != 59) = false := by decide +kernel
end Nun
namespace Go.Proofs.YtdfflbpifpoogaaDoor
open Go Go.RowKit Nun
theorem blanks_at (s : ByteArray) (i : Int) (k E : Nat) (hE : endW blankC s.data.toList k = E) (w : World) (hi : i = k) (hs : s.size ≤ 1000000) (hk : k ≤ s.size) : Calls Tryd.prog 37 #[.string s, .int .i64 i] w (Same (.int .i64 E) w) := by
  subst hi; exact blanks_ref s k w hs hk E hE
theorem run_at (s : ByteArray) (i : Int) (k E : Nat) (hE : endW plainC s.data.toList k = E) (w : World) (hi : i = k) (hs : s.size ≤ 1000000) (hk : k ≤ s.size) : Calls Tryd.prog 38 #[.string s, .int .i64 i] w (Same (.int .i64 E) w) := by
  subst hi; exact run_ref s k w hs hk E hE
theorem quoted_at (s : ByteArray) (i : Int) (k : Nat) (Q : Option (List UInt8 × List UInt8)) (hQ : quoteD s.data.toList k = Q) (w : World) (hi : i = k) (hs : s.size ≤ 1000000) (hk : k ≤ s.size) : Calls Tryd.prog 40 #[.string s, .int .i64 i] w (quotedRV s w Q) := by
  subst hi; exact quoted_ref s k w hs hk Q hQ
theorem begins_at (s x : ByteArray) (i : Int) (k : Nat) (b : Bool) (h : begL s.data.toList x.data.toList k = b) (w : World) (hi : i = k) (hs : s.size ≤ 1000000) (hx : x.size ≤ 1000) (hk : k ≤ 1000000) : Calls Tryd.prog 39 #[.string s, .string x, .int .i64 i] w (Same (.bool b) w) := by
  subst hi; exact begins_of s x k b h w (by omega) (by omega) (by omega)
theorem namer2_of (s : ByteArray) (b : Bool) (h : nameL s.data.toList = b) (w : World) (hs : s.size ≤ maxLen) : Calls Tryd.prog 28 #[.string s] w (Same (.bool b) w) := h ▸ name_ref s w hs
set_option maxHeartbeats 8000000 in
set_option maxRecDepth 100000 in
theorem params_ref (s : ByteArray) (w : World) (hs : s.size ≤ 10000) (V : PRes) (hV : paramsL s.data.toList = V) : Calls Tryd.prog 15 #[.string s] w (paramsV V w) := by
  obtain ⟨l, hl⟩ : ∃ l, s.data.toList = l := ⟨_, rfl⟩
  have hll : l.length = s.size := by rw [← hl]; rfl
  have hsm : s.size ≤ 1000000 := by omega
  obtain ⟨a0, ha0⟩ : ∃ a0, endW blankC l 0 = a0 := ⟨_, rfl⟩
  obtain ⟨t0, ht0⟩ : ∃ t0, endW plainC l a0 = t0 := ⟨_, rfl⟩
  obtain ⟨k0, hk0⟩ : ∃ k0, endW blankC l t0 = k0 := ⟨_, rfl⟩
  have hd0 : l.dropWhile blankC = l.drop a0 := by rw [← ha0, endW_drop, List.drop_zero]
  have hd1 : (l.drop a0).dropWhile plainC = l.drop t0 := by rw [← ht0, endW_drop]
  have hd2 : (l.drop t0).dropWhile blankC = l.drop k0 := by rw [← hk0, endW_drop]
  have la0 : a0 ≤ l.length := by rw [← ha0]; exact endW_le _ _ _ (Nat.zero_le _)
  have lt0 : t0 ≤ l.length := by rw [← ht0]; exact endW_le _ _ _ la0
  have lk0 : k0 ≤ l.length := by rw [← hk0]; exact endW_le _ _ _ lt0
  have gt0 : a0 ≤ t0 := by rw [← ht0]; exact endW_ge _ _ _
  obtain ⟨m, hm⟩ : ∃ m, (l.drop a0).takeWhile plainC = m := ⟨_, rfl⟩
  obtain ⟨M, hM⟩ : ∃ M, s.extract a0 t0 = M := ⟨_, rfl⟩
  have hMd : M.data.toList = m := by rw [← hM, ← ht0, ← hl, endW_slice, hl, hm]
  have hMm : (⟨m.toArray⟩ : ByteArray) = M := (congrArg (fun x : List UInt8 => (⟨x.toArray⟩ : ByteArray)) hMd.symm).trans (mk_list M)
  unfold paramsL at hV
  rw [hl, hll, hd0, hm, hd1] at hV
  rw [← hl] at ha0 ht0 hk0
  rw [hll] at la0 lt0 lk0
  have HA0 := Lib.hid ha0; have HT0 := Lib.hid ht0; have HK0 := Lib.hid hk0; have HMM := Lib.hid hMm; have HD2 := Lib.hid hd2
  have i1 : (a0 : Int) ≤ (t0 : Int) := by omega
  have i2 : (t0 : Int) ≤ (s.size : Int) := by omega
  by_cases hm0 : m = []
  · have hem := empty_iff m M hMm true (by rw [hm0]; rfl)
    have hVf : V = .form := by
      rw [← hV]
      rcases loopL (s.size + 1) (l.drop t0) [] false with _ | ⟨o, tw⟩
      · rfl
      · dsimp only; rw [if_pos hm0]
    subst hVf
    clear hV hl hll ha0 ht0 hk0 hd0 hd1 hd2 hm hMd hMm hm0
    go_enter Tryd.func15, Tryd.ntmps15
    go_wp2_with (first | (go_at_call 37; refine (blanks_at s 0 0 a0 HA0.out _ (by rfl) hsm (Nat.zero_le _)).mono ?_; rintro e w1 ⟨rfl, rfl⟩; clear HA0) | (go_at_call 38; refine (run_at s _ a0 t0 HT0.out _ (by rfl) hsm la0).mono ?_; rintro e w1 ⟨rfl, rfl⟩))
    go_ret3
    exact ⟨rfl, Below.refl _ _⟩
  · have hem := empty_iff m M hMm false (by cases m <;> first | rfl | exact absurd rfl hm0)
    have hV' : V = match loopL (s.size + 1) (l.drop t0) [] false with | none => PRes.form | some (out, tw) => if tw then .twice else .ok m out := by
      rw [← hV]
      rcases loopL (s.size + 1) (l.drop t0) [] false with _ | ⟨o, tw⟩
      · rfl
      · dsimp only; rw [if_neg hm0]
    have HV := Lib.hid hV'; have HL := Lib.hid hl; have HLL := Lib.hid hll
    clear hV hV' hl hll ha0 ht0 hk0 hd0 hd1 hd2 hm hMd hMm hm0
    go_enter Tryd.func15, Tryd.ntmps15
    go_wp2_with (first | (go_at_call 37; refine (blanks_at s 0 0 a0 HA0.out _ (by rfl) hsm (Nat.zero_le _)).mono ?_; rintro e w1 ⟨rfl, rfl⟩; clear HA0) | (go_at_call 38; refine (run_at s _ a0 t0 HT0.out _ (by rfl) hsm la0).mono ?_; rintro e w1 ⟨rfl, rfl⟩) | (go_at_call 37; refine (blanks_at s _ t0 k0 HK0.out _ (by rfl) hsm lt0).mono ?_; rintro e w1 ⟨rfl, rfl⟩))
    go_loopw [5, 6, 8, 9, 10, 11, 12] (fun at_ _ out tw _ _ _ wr => ∃ (n k : Nat) (r : List UInt8) (F : List Fld) (t : Bool), at_ = .int .i64 k ∧ tw = .bool t ∧ k ≤ s.size ∧ r.length < n ∧ r.length + F.length ≤ s.size ∧ Hid (l.drop k = r.dropWhile blankC) ∧ Hid (∀ p ∈ F, p.1.length ≤ 1000000) ∧
        Hid (V = match loopL n r F t with | none => PRes.form | some (out, tw) => if tw then .twice else .ok m out) ∧ Hid (wr.ownsRow w.heap.size 43 2 out F.length (fldCells F)) ∧ Hid (Below w.heap.size w wr))
      (fun at_ _ _ _ _ _ _ _ => s.size - (intOf at_).toNat)
    case atStart => exact ⟨s.size + 1, k0, l.drop t0, [], false, rfl, rfl, lk0, by rw [List.length_drop, HLL.out]; omega, by rw [List.length_drop, HLL.out, List.length_nil]; omega, Lib.hid HD2.out.symm, Lib.hid (by simp), HV, Lib.hid (World.ownsRow_made (size := 2) w _ 0 (Nat.le_refl _) (by decide) (by decide)), Lib.hid ((Below.refl _ _).alloc (Nat.le_refl _) _)⟩
    case round =>
      clear HT0 HK0 HD2 HV
      obtain ⟨n, k, r, F, tw, rfl, rfl, hk, hrn, hrF, hq, hFs, hVV, hown, hbel⟩ := hrel
      obtain ⟨n, rfl⟩ : ∃ n', n = n' + 1 := ⟨n - 1, by omega⟩
      have hqr : (l.drop k).length ≤ r.length := by rw [hq.out]; exact dropWhile_len blankC r
      rw [List.length_drop, HLL.out] at hqr
      by_cases hlt : k < s.size
      · have hki : (k : Int) < (s.size : Int) := by omega
        have hkl : k < l.length := by rw [HLL.out]; exact hlt
        have hgs : l[k] = s[k] := by
          have : ∀ (l' : List UInt8) (h : s.data.toList = l') (h2 : k < l'.length), l'[k] = s[k] := by intro l' h h2; subst h; rfl
          exact this l HL.out hkl
        have hne : ¬ r.dropWhile blankC = [] := by rw [← hq.out, List.drop_eq_getElem_cons hkl]; exact List.cons_ne_nil _ _
        have hsg := sign_cons 59 hkl
        rw [hgs] at hsg
        by_cases h59 : s[k] = 59
        · rw [if_pos h59] at hsg
          have hx := b59o _ h59
          obtain ⟨a1, ha1⟩ : ∃ a1, endW blankC l (k + 1) = a1 := ⟨_, rfl⟩
          obtain ⟨to, hto⟩ : ∃ to, endW plainC l a1 = to := ⟨_, rfl⟩
          have la1 : a1 ≤ l.length := by rw [← ha1]; exact endW_le _ _ _ (by omega)
          have lto : to ≤ l.length := by rw [← hto]; exact endW_le _ _ _ la1
          have gto : a1 ≤ to := by rw [← hto]; exact endW_ge _ _ _
          have ga1 : k + 1 ≤ a1 := by rw [← ha1]; exact endW_ge _ _ _
          have hd1 : (l.drop (k + 1)).dropWhile blankC = l.drop a1 := by rw [← ha1, endW_drop]
          have hd2 : (l.drop a1).dropWhile plainC = l.drop to := by rw [← hto, endW_drop]
          obtain ⟨p1, hp1⟩ : ∃ p1, (l.drop a1).takeWhile plainC = p1 := ⟨_, rfl⟩
          obtain ⟨K, hK⟩ : ∃ K, s.extract a1 to = K := ⟨_, rfl⟩
          have hKd : K.data.toList = p1 := by
            have := endW_slice plainC s a1
            rw [HL.out, hto, hK, hp1] at this; exact this
          have hKp : (⟨p1.toArray⟩ : ByteArray) = K := (congrArg (fun x : List UInt8 => (⟨x.toArray⟩ : ByteArray)) hKd.symm).trans (mk_list K)
          have hKs : K.size ≤ 10000 := by rw [← hK, ByteArray.size_extract]; omega
          have hKm : K.size ≤ maxLen := by unfold maxLen; omega
          have hpar : paramL (l.drop (k + 1)) = if nameL p1 = true then (match signL 61 (l.drop to) with
              | none => none
              | some l3 => match signL 34 l3 with
                | some l4 => (quotedL (l4.length + 1) l4).map fun p => ((p1, p.1), p.2)
                | none => if l3.takeWhile plainC = [] then none else some ((p1, l3.takeWhile plainC), l3.dropWhile plainC)) else none := by
            unfold paramL; rw [hd1, hp1, hd2]; rfl
          rw [HLL.out] at la1 lto
          rw [← HL.out] at ha1 hto
          have HA1 := Lib.hid ha1; have HTO := Lib.hid hto; have HKP := Lib.hid hKp
          have j1 : (a1 : Int) ≤ (to : Int) := by omega
          have j2 : (to : Int) ≤ (s.size : Int) := by omega
          have hsg2 : signL 59 (r.dropWhile blankC) = some (l.drop (k + 1)) := by rw [← hq.out]; exact hsg
          have HSG := Lib.hid hsg2
          have hform : paramL (l.drop (k + 1)) = none → V = .form := by
            intro h
            have := hVV.out
            rw [loopL_noparam n r _ F tw hne hsg2 h] at this
            exact this
          have HFORM := Lib.hid hform; have HNE := Lib.hid hne
          clear hsg hsg2 hform hne ha1 hto hd1 hd2 hp1 h59
          rcases hn : nameL p1 with _ | _
          · have hVf := HFORM.out (by rw [hpar, hn, if_neg (by simp)])
            have HN := Lib.hid (show nameL K.data.toList = false by rw [hKd]; exact hn)
            subst hVf
            clear hpar hn hKd hKp
            go_wp2_with (first | (go_at_call 37; refine (blanks_at s _ (k + 1) a1 HA1.out _ (by omega) hsm (by omega)).mono ?_; rintro e w1 ⟨rfl, rfl⟩; clear HA1) | (go_at_call 38; refine (run_at s _ a1 to HTO.out _ (by rfl) hsm la1).mono ?_; rintro e w1 ⟨rfl, rfl⟩; clear HTO) | (go_at_call 28; refine (namer2_of K false HN.out _ hKm).mono ?_; rintro e w1 ⟨rfl, rfl⟩))
            go_ret3
            exact ⟨rfl, hbel.out⟩
          · have HN := Lib.hid (show nameL K.data.toList = true by rw [hKd]; exact hn)
            rw [hn, if_pos rfl] at hpar
            have hb61 := begL_sign l 61 to
            rcases hs1 : signL 61 (l.drop to) with _ | l3
            · have hVf := HFORM.out (by rw [hpar, hs1])
              have HB61 := Lib.hid (show begL s.data.toList (ByteArray.mk #[61]).data.toList to = false by rw [HL.out]; show begL l [61] to = false; rw [hb61, hs1]; rfl)
              subst hVf
              clear hpar hn hKd hKp hb61 hs1
              go_wp2_with (first | (go_at_call 37; refine (blanks_at s _ (k + 1) a1 HA1.out _ (by omega) hsm (by omega)).mono ?_; rintro e w1 ⟨rfl, rfl⟩; clear HA1) | (go_at_call 38; refine (run_at s _ a1 to HTO.out _ (by rfl) hsm la1).mono ?_; rintro e w1 ⟨rfl, rfl⟩; clear HTO) | (go_at_call 28; refine (namer2_of K true HN.out _ hKm).mono ?_; rintro e w1 ⟨rfl, rfl⟩) | (go_at_call 39; refine (begins_at s ⟨#[61]⟩ _ to false HB61.out _ (by rfl) hsm (by decide) (by omega)).mono ?_; rintro e w1 ⟨rfl, rfl⟩; clear HB61))
              go_ret3
              exact ⟨rfl, hbel.out⟩
            · obtain ⟨rfl, l3l⟩ := signL_drop hs1
              rw [HLL.out] at l3l
              have HB61 := Lib.hid (show begL s.data.toList (ByteArray.mk #[61]).data.toList to = true by rw [HL.out]; show begL l [61] to = true; rw [hb61, hs1]; rfl)
              rw [hs1] at hpar
              dsimp only at hpar
              have hb34 := begL_sign l 34 (to + 1)
              have hw1 : IntKind.i64.wrap ((to : Int) + 1) = (to : Int) + 1 := IntWalk.i64_in _ (by omega)
              have hw2 : (0 : Int) ≤ (to : Int) + 1 := by omega
              have hw3 : ((to : Int) + 1).toNat = to + 1 := by omega
              rcases hs2 : signL 34 (l.drop (to + 1)) with _ | l4
              · have HB34 := Lib.hid (show begL s.data.toList (ByteArray.mk #[34]).data.toList (to + 1) = false by rw [HL.out]; show begL l [34] (to + 1) = false; rw [hb34, hs2]; rfl)
                rw [hs2] at hpar
                dsimp only at hpar
                obtain ⟨j, hj⟩ : ∃ j, endW plainC l (to + 1) = j := ⟨_, rfl⟩
                have lj : j ≤ l.length := by rw [← hj]; exact endW_le _ _ _ (by rw [HLL.out]; exact l3l)
                have gj : to + 1 ≤ j := by rw [← hj]; exact endW_ge _ _ _
                have hd3 : (l.drop (to + 1)).dropWhile plainC = l.drop j := by rw [← hj, endW_drop]
                obtain ⟨v, hv⟩ : ∃ v, (l.drop (to + 1)).takeWhile plainC = v := ⟨_, rfl⟩
                obtain ⟨X, hX⟩ : ∃ X, s.extract (to + 1) j = X := ⟨_, rfl⟩
                have hXd : X.data.toList = v := by
                  have := endW_slice plainC s (to + 1)
                  rw [HL.out, hj, hX, hv] at this; exact this
                have hXp : (⟨v.toArray⟩ : ByteArray) = X := (congrArg (fun x : List UInt8 => (⟨x.toArray⟩ : ByteArray)) hXd.symm).trans (mk_list X)
                rw [hv, hd3] at hpar
                rw [← HL.out] at hj
                rw [HLL.out] at lj
                have HJ := Lib.hid hj
                have j3 : (to : Int) + 1 ≤ (j : Int) := by omega
                have j4 : (j : Int) ≤ (s.size : Int) := by omega
                by_cases hv0 : v = []
                · have hem3 := empty_iff v X hXp true (by rw [hv0]; rfl)
                  have hVf := HFORM.out (by rw [hpar, if_pos hv0])
                  subst hVf
                  clear hpar hn hKd hKp hb61 hs1 hs2 hb34 hj hd3 hv hXd hXp hv0
                  go_wp2_with (first | (go_at_call 37; refine (blanks_at s _ (k + 1) a1 HA1.out _ (by omega) hsm (by omega)).mono ?_; rintro e w1 ⟨rfl, rfl⟩; clear HA1) | (go_at_call 38; refine (run_at s _ a1 to HTO.out _ (by rfl) hsm la1).mono ?_; rintro e w1 ⟨rfl, rfl⟩; clear HTO) | (go_at_call 28; refine (namer2_of K true HN.out _ hKm).mono ?_; rintro e w1 ⟨rfl, rfl⟩) | (go_at_call 39; refine (begins_at s ⟨#[61]⟩ _ to true HB61.out _ (by rfl) hsm (by decide) (by omega)).mono ?_; rintro e w1 ⟨rfl, rfl⟩; clear HB61) | (go_at_call 39; refine (begins_at s ⟨#[34]⟩ _ (to + 1) false HB34.out _ (by omega) hsm (by decide) (by omega)).mono ?_; rintro e w1 ⟨rfl, rfl⟩; clear HB34) | (go_at_call 38; refine (run_at s _ (to + 1) j HJ.out _ (by omega) hsm (by omega)).mono ?_; rintro e w1 ⟨rfl, rfl⟩))
                  go_ret3
                  exact ⟨rfl, hbel.out⟩
                · have hem3 := empty_iff v X hXp false (by cases v <;> first | rfl | exact absurd rfl hv0)
                  rw [if_neg hv0] at hpar
                  have hjn : j ≤ s.size := lj
                  have hdj : l.drop j = l.drop j := rfl
                  obtain ⟨r2, hr2⟩ : ∃ r2, l.drop j = r2 := ⟨_, rfl⟩
                  rw [hr2] at hpar
                  have hxs : True := trivial
                  clear hn hb61 hs1 hs2 hb34 hj hd3 hv hXd hv0 hdj
                  obtain ⟨a8, cap8, rfl, hsl⟩ : ∃ a8 cap8, u8 = .slice a8 F.length cap8 ∧ (F.length = 0 ∨ ∃ g, a8 = some ⟨g, 0, none⟩ ∧ w.heap.size ≤ g ∧ g < wr.heap.size ∧ F.length ≤ cap8) := by
                    rcases row_form hown.out with ⟨h, h0⟩ | ⟨g, cap, h, h1, h2, h3⟩
                    · exact ⟨none, 0, by rw [h, h0], .inl h0⟩
                    · exact ⟨_, _, h, .inr ⟨g, rfl, h1, h2, h3⟩⟩
                  have hsl8 := Lib.hid hsl
                  clear hsl
                  rename World => W0
                  obtain ⟨hrl, hpl, hpv⟩ := paramL_len hpar
                  dsimp only at hrl hpl hpv
                  rw [List.length_drop, HLL.out] at hrl hpl hpv
                  have hFl : F.length ≤ 10000 := by omega
                  have hFs2 : ∀ x ∈ F ++ [(p1, v)], x.1.length ≤ 1000000 := by
                    intro x hx
                    rcases List.mem_append.1 hx with h | h
                    · exact hFs.out x h
                    · rw [List.mem_singleton.1 h]; dsimp only; omega
                  have hsnoc : fldCells (F ++ [(p1, v)]) = fldCells F ++ [.string K, .string X] := by rw [fldCells_snoc]; dsimp only; rw [hKp, hXp]
                  have hlp : (F ++ [(p1, v)]).length = F.length + 1 := by rw [List.length_append]; rfl
                  have hkn := fun b hb => loopL_step n r (l.drop (k + 1)) r2 (p1, v) F tw b HNE.out HSG.out hpar hb
                  have HST := Lib.hid hkn; have HSN := Lib.hid hsnoc; have HLP := Lib.hid hlp; have HFS2 := Lib.hid hFs2; have HXP := Lib.hid hXp
                  obtain ⟨fk, hfk⟩ : ∃ fk, foldL p1 = fk := ⟨_, rfl⟩
                  have HFK := Lib.hid (show foldL K.data.toList = fk by rw [hKd]; exact hfk)
                  have HFK2 := Lib.hid hfk
                  clear hpar hFs2 hsnoc hlp hkn hXp hKd hKp hfk
                  go_wp2_with (first | (go_at_call 37; refine (blanks_at s _ (k + 1) a1 HA1.out _ (by omega) hsm (by omega)).mono ?_; rintro e w1 ⟨rfl, rfl⟩; clear HA1) | (go_at_call 38; refine (run_at s _ a1 to HTO.out _ (by rfl) hsm la1).mono ?_; rintro e w1 ⟨rfl, rfl⟩; clear HTO) | (go_at_call 28; refine (namer2_of K true HN.out _ hKm).mono ?_; rintro e w1 ⟨rfl, rfl⟩) | (go_at_call 39; refine (begins_at s ⟨#[61]⟩ _ to true HB61.out _ (by rfl) hsm (by decide) (by omega)).mono ?_; rintro e w1 ⟨rfl, rfl⟩; clear HB61) | (go_at_call 39; refine (begins_at s ⟨#[34]⟩ _ (to + 1) false HB34.out _ (by omega) hsm (by decide) (by omega)).mono ?_; rintro e w1 ⟨rfl, rfl⟩; clear HB34) | (go_at_call 38; refine (run_at s _ (to + 1) j HJ.out _ (by omega) hsm (by omega)).mono ?_; rintro e w1 ⟨rfl, rfl⟩))
                  have HR2 := Lib.hid hr2
                  go_loopw [9, 12] (fun t i wr => ∃ (i0 : Nat) (b : Bool), i = .int .i64 i0 ∧ i0 ≤ F.length ∧ t = .bool (tw || b) ∧ Hid ((F.take i0).any (fun x => foldL x.1 == fk) = b) ∧ Hid (Below W0.heap.size W0 wr))
                    (fun _ i _ => F.length - (intOf i).toNat)
                  case atStart => exact ⟨0, false, rfl, Nat.zero_le _, by simp, Lib.hid rfl, Lib.hid (Below.refl _ _)⟩
                  case round =>
                    obtain ⟨i0, b, rfl, hi0, rfl, hb, hbw⟩ := hrel
                    by_cases hilt : i0 < F.length
                    · obtain ⟨g, rfl, hg0, hgl, hcap⟩ : ∃ g, a8 = some ⟨g, 0, none⟩ ∧ w.heap.size ≤ g ∧ g < W0.heap.size ∧ F.length ≤ cap8 := hsl8.out.resolve_left (by omega)
                      obtain ⟨f0, f1⟩ := fldCells_at F i0 hilt
                      obtain ⟨q, hqq⟩ : ∃ q, F[i0] = q := ⟨_, rfl⟩
                      rw [hqq] at f0
                      have hc0 := hown.out.cellAt (i0 * 2) (by omega)
                      rw [f0] at hc0
                      have hcw := (hbw.out.cell (p := ⟨g, i0 * 2, none⟩) hgl).trans hc0
                      obtain ⟨A, hA⟩ : ∃ A : ByteArray, (⟨q.1.toArray⟩ : ByteArray) = A := ⟨_, rfl⟩
                      rw [hA] at hcw
                      have hAs : A.size ≤ 1000000 := by rw [← hA]; exact hFs.out q (by rw [← hqq]; exact List.getElem_mem _)
                      obtain ⟨fa, hfa⟩ : ∃ fa, foldL q.1 = fa := ⟨_, rfl⟩
                      have HFA := Lib.hid (show foldL A.data.toList = fa by rw [← hA]; exact hfa)
                      have hnext : (F.take (i0 + 1)).any (fun x => foldL x.1 == fk) = (b || (fa == fk)) := by rw [any_take_succ _ _ _ hilt, hb.out, hqq, hfa]
                      have HNX := Lib.hid hnext
                      have hii : (i0 : Int) < (F.length : Int) := by omega
                      clear f0 f1 hc0 hA hfa hnext hqq
                      rcases htb : (tw || b) with _ | _
                      · go_wp2_with (go_at_call 41; first | ((with_reducible refine (foldr_of A fa HFA.out _ hAs).mono ?_); rintro e w6 ⟨rfl, hb6⟩) | ((with_reducible refine (foldr_of K fk HFK.out _ (by omega)).mono ?_); rintro e w7 ⟨rfl, hb7⟩))
                        go_roundw
                        case rel => exact ⟨i0 + 1, b || (fa == fk), by go_num, by omega, by rw [← Bool.or_assoc, htb, Bool.false_or], HNX, Lib.hid ((hbw.out.trans (hb6.mono hbw.out.size)).trans (hb7.mono (Nat.le_trans hbw.out.size hb6.size)))⟩
                        case measure => simp [intOf]; omega
                      · go_wp2
                        go_roundw
                        case rel => exact ⟨i0 + 1, _, by go_num, by omega, by rw [← Bool.or_assoc, htb]; rfl, HNX, hbw⟩
                        case measure => simp [intOf]; omega
                    · obtain rfl : i0 = F.length := by omega
                      have hw0 : w.heap.size ≤ W0.heap.size := hbel.out.size
                      have hb2 := hb.out
                      rw [List.take_length] at hb2
                      have hstep := HST.out b (show (F.any fun x => foldL p1 == foldL x.1) = b by rw [any_swap, HFK2.out]; exact hb2)
                      have hvv := hVV.out
                      rw [hstep] at hvv
                      have HVN := Lib.hid hvv
                      have HOW := Lib.hid (own_below hown.out hbw.out)
                      have hwi : w.heap.size ≤ wr.heap.size := Nat.le_trans hw0 hbw.out.size
                      have HBI := Lib.hid (hbel.out.trans (hbw.out.mono hw0))
                      have hii : ¬ (F.length : Int) < (F.length : Int) := by omega
                      obtain ⟨k2, hk2⟩ : ∃ k2, endW blankC l j = k2 := ⟨_, rfl⟩
                      have hk2l : k2 ≤ s.size := by rw [← hk2, ← HLL.out]; exact endW_le _ _ _ (by rw [HLL.out]; exact hjn)
                      have hk2g : j ≤ k2 := by rw [← hk2]; exact endW_ge _ _ _
                      have hk2d : l.drop k2 = r2.dropWhile blankC := by rw [← hk2, endW_drop, HR2.out]
                      have HK2D := Lib.hid hk2d
                      rw [← HL.out] at hk2
                      have HK2 := Lib.hid hk2
                      have hjr : s.size - j = r2.length := by rw [← HR2.out, List.length_drop, HLL.out]
                      clear hk2d hk2 hb2 hstep hvv
                      go_wp2_with (first | (at_builtin; refine push1 (by rfl) _ _ _ (by rfl) 43 _ 2 32 Tryd.underlying37 infoPair (by rfl) (by omega) w.heap.size wr _ _ _ (by rfl) HOW.out [.string K, .string X] (by rfl) (by simp [Value.oneCell']) (by rfl) (by omega) (by omega) hwi ?_; intro gg cap w8 hgg hown8 hgr8 hb8 hsz8; have HO8 := Lib.hid hown8; have HB8 := Lib.hid (HBI.out.trans hb8); clear hown8 hgr8) | (go_at_call 37; refine (blanks_at s _ j k2 HK2.out _ (by omega) hsm hjn).mono ?_; rintro e w9 ⟨rfl, rfl⟩))
                      go_roundw
                      case rel => exact ⟨n, k2, r2, F ++ [(p1, v)], _, rfl, rfl, hk2l, by omega, by rw [HLP.out]; omega, HK2D, HFS2, HVN, Lib.hid (by rw [HSN.out, HLP.out]; exact HO8.out), HB8⟩
                      case measure => simp [intOf]; omega
              · obtain ⟨rfl, l4l⟩ := signL_drop hs2
                rw [HLL.out] at l4l
                have HB34 := Lib.hid (show begL s.data.toList (ByteArray.mk #[34]).data.toList (to + 1) = true by rw [HL.out]; show begL l [34] (to + 1) = true; rw [hb34, hs2]; rfl)
                rw [hs2] at hpar
                dsimp only at hpar
                rw [← quoteD_drop] at hpar
                rcases hqd : quoteD l (to + 1 + 1) with _ | ⟨v, r2⟩
                · have HQD := Lib.hid (show quoteD s.data.toList (to + 2) = none by rw [HL.out]; exact hqd)
                  have hVf := HFORM.out (by rw [hpar, hqd]; rfl)
                  subst hVf
                  clear hpar hn hKd hKp hb61 hs1 hs2 hb34 hqd
                  go_wp2_with (first | (go_at_call 37; refine (blanks_at s _ (k + 1) a1 HA1.out _ (by omega) hsm (by omega)).mono ?_; rintro e w1 ⟨rfl, rfl⟩; clear HA1) | (go_at_call 38; refine (run_at s _ a1 to HTO.out _ (by rfl) hsm la1).mono ?_; rintro e w1 ⟨rfl, rfl⟩; clear HTO) | (go_at_call 28; refine (namer2_of K true HN.out _ hKm).mono ?_; rintro e w1 ⟨rfl, rfl⟩) | (go_at_call 39; refine (begins_at s ⟨#[61]⟩ _ to true HB61.out _ (by rfl) hsm (by decide) (by omega)).mono ?_; rintro e w1 ⟨rfl, rfl⟩; clear HB61) | (go_at_call 39; refine (begins_at s ⟨#[34]⟩ _ (to + 1) true HB34.out _ (by omega) hsm (by decide) (by omega)).mono ?_; rintro e w1 ⟨rfl, rfl⟩; clear HB34) | (go_at_call 40; refine (quoted_at s _ (to + 2) none HQD.out _ (by omega) hsm (by omega)).mono ?_; rintro e w1 ⟨rfl, rfl⟩))
                  go_ret3
                  exact ⟨rfl, hbel.out⟩
                · have HQD := Lib.hid (show quoteD s.data.toList (to + 2) = some (v, r2) by rw [HL.out]; exact hqd)
                  rw [hqd] at hpar
                  replace hpar : paramL (l.drop (k + 1)) = some ((p1, v), r2) := hpar
                  obtain ⟨X, hXp⟩ : ∃ X : ByteArray, (⟨v.toArray⟩ : ByteArray) = X := ⟨_, rfl⟩
                  clear hn hb61 hs1 hs2 hb34 hqd
                  obtain ⟨a8, cap8, rfl, hsl⟩ : ∃ a8 cap8, u8 = .slice a8 F.length cap8 ∧ (F.length = 0 ∨ ∃ g, a8 = some ⟨g, 0, none⟩ ∧ w.heap.size ≤ g ∧ g < wr.heap.size ∧ F.length ≤ cap8) := by
                    rcases row_form hown.out with ⟨h, h0⟩ | ⟨g, cap, h, h1, h2, h3⟩
                    · exact ⟨none, 0, by rw [h, h0], .inl h0⟩
                    · exact ⟨_, _, h, .inr ⟨g, rfl, h1, h2, h3⟩⟩
                  have hsl8 := Lib.hid hsl
                  clear hsl
                  rename World => W0
                  obtain ⟨hrl, hpl, hpv⟩ := paramL_len hpar
                  dsimp only at hrl hpl hpv
                  rw [List.length_drop, HLL.out] at hrl hpl hpv
                  have hFl : F.length ≤ 10000 := by omega
                  have hFs2 : ∀ x ∈ F ++ [(p1, v)], x.1.length ≤ 1000000 := by
                    intro x hx
                    rcases List.mem_append.1 hx with h | h
                    · exact hFs.out x h
                    · rw [List.mem_singleton.1 h]; dsimp only; omega
                  have hsnoc : fldCells (F ++ [(p1, v)]) = fldCells F ++ [.string K, .string X] := by rw [fldCells_snoc]; dsimp only; rw [hKp, hXp]
                  have hlp : (F ++ [(p1, v)]).length = F.length + 1 := by rw [List.length_append]; rfl
                  have hkn := fun b hb => loopL_step n r (l.drop (k + 1)) r2 (p1, v) F tw b HNE.out HSG.out hpar hb
                  have HST := Lib.hid hkn; have HSN := Lib.hid hsnoc; have HLP := Lib.hid hlp; have HFS2 := Lib.hid hFs2; have HXP := Lib.hid hXp
                  obtain ⟨fk, hfk⟩ : ∃ fk, foldL p1 = fk := ⟨_, rfl⟩
                  have HFK := Lib.hid (show foldL K.data.toList = fk by rw [hKd]; exact hfk)
                  have HFK2 := Lib.hid hfk
                  clear hpar hFs2 hsnoc hlp hkn hXp hKd hKp hfk
                  go_wp2_with (first | (go_at_call 37; refine (blanks_at s _ (k + 1) a1 HA1.out _ (by omega) hsm (by omega)).mono ?_; rintro e w1 ⟨rfl, rfl⟩; clear HA1) | (go_at_call 38; refine (run_at s _ a1 to HTO.out _ (by rfl) hsm la1).mono ?_; rintro e w1 ⟨rfl, rfl⟩; clear HTO) | (go_at_call 28; refine (namer2_of K true HN.out _ hKm).mono ?_; rintro e w1 ⟨rfl, rfl⟩) | (go_at_call 39; refine (begins_at s ⟨#[61]⟩ _ to true HB61.out _ (by rfl) hsm (by decide) (by omega)).mono ?_; rintro e w1 ⟨rfl, rfl⟩; clear HB61) | (go_at_call 39; refine (begins_at s ⟨#[34]⟩ _ (to + 1) true HB34.out _ (by omega) hsm (by decide) (by omega)).mono ?_; rintro e w1 ⟨rfl, rfl⟩; clear HB34) | (go_at_call 40; refine (quoted_at s _ (to + 2) (some (v, r2)) HQD.out _ (by omega) hsm (by omega)).mono ?_; rintro e w1 ⟨j, rfl, hjn, hr2, rfl⟩; rw [HXP.out]; have hj0 : (0 : Int) ≤ (j : Int) := (by omega); have HR2 := Lib.hid hr2.out; rw [HL.out] at HR2))
                  go_loopw [9, 12] (fun t i wr => ∃ (i0 : Nat) (b : Bool), i = .int .i64 i0 ∧ i0 ≤ F.length ∧ t = .bool (tw || b) ∧ Hid ((F.take i0).any (fun x => foldL x.1 == fk) = b) ∧ Hid (Below W0.heap.size W0 wr))
                    (fun _ i _ => F.length - (intOf i).toNat)
                  case atStart => exact ⟨0, false, rfl, Nat.zero_le _, by simp, Lib.hid rfl, Lib.hid (Below.refl _ _)⟩
                  case round =>
                    obtain ⟨i0, b, rfl, hi0, rfl, hb, hbw⟩ := hrel
                    by_cases hilt : i0 < F.length
                    · obtain ⟨g, rfl, hg0, hgl, hcap⟩ : ∃ g, a8 = some ⟨g, 0, none⟩ ∧ w.heap.size ≤ g ∧ g < W0.heap.size ∧ F.length ≤ cap8 := hsl8.out.resolve_left (by omega)
                      obtain ⟨f0, f1⟩ := fldCells_at F i0 hilt
                      obtain ⟨q, hqq⟩ : ∃ q, F[i0] = q := ⟨_, rfl⟩
                      rw [hqq] at f0
                      have hc0 := hown.out.cellAt (i0 * 2) (by omega)
                      rw [f0] at hc0
                      have hcw := (hbw.out.cell (p := ⟨g, i0 * 2, none⟩) hgl).trans hc0
                      obtain ⟨A, hA⟩ : ∃ A : ByteArray, (⟨q.1.toArray⟩ : ByteArray) = A := ⟨_, rfl⟩
                      rw [hA] at hcw
                      have hAs : A.size ≤ 1000000 := by rw [← hA]; exact hFs.out q (by rw [← hqq]; exact List.getElem_mem _)
                      obtain ⟨fa, hfa⟩ : ∃ fa, foldL q.1 = fa := ⟨_, rfl⟩
                      have HFA := Lib.hid (show foldL A.data.toList = fa by rw [← hA]; exact hfa)
                      have hnext : (F.take (i0 + 1)).any (fun x => foldL x.1 == fk) = (b || (fa == fk)) := by rw [any_take_succ _ _ _ hilt, hb.out, hqq, hfa]
                      have HNX := Lib.hid hnext
                      have hii : (i0 : Int) < (F.length : Int) := by omega
                      clear f0 f1 hc0 hA hfa hnext hqq
                      rcases htb : (tw || b) with _ | _
                      · go_wp2_with (go_at_call 41; first | ((with_reducible refine (foldr_of A fa HFA.out _ hAs).mono ?_); rintro e w6 ⟨rfl, hb6⟩) | ((with_reducible refine (foldr_of K fk HFK.out _ (by omega)).mono ?_); rintro e w7 ⟨rfl, hb7⟩))
                        go_roundw
                        case rel => exact ⟨i0 + 1, b || (fa == fk), by go_num, by omega, by rw [← Bool.or_assoc, htb, Bool.false_or], HNX, Lib.hid ((hbw.out.trans (hb6.mono hbw.out.size)).trans (hb7.mono (Nat.le_trans hbw.out.size hb6.size)))⟩
                        case measure => simp [intOf]; omega
                      · go_wp2
                        go_roundw
                        case rel => exact ⟨i0 + 1, _, by go_num, by omega, by rw [← Bool.or_assoc, htb]; rfl, HNX, hbw⟩
                        case measure => simp [intOf]; omega
                    · obtain rfl : i0 = F.length := by omega
                      have hw0 : w.heap.size ≤ W0.heap.size := hbel.out.size
                      have hb2 := hb.out
                      rw [List.take_length] at hb2
                      have hstep := HST.out b (show (F.any fun x => foldL p1 == foldL x.1) = b by rw [any_swap, HFK2.out]; exact hb2)
                      have hvv := hVV.out
                      rw [hstep] at hvv
                      have HVN := Lib.hid hvv
                      have HOW := Lib.hid (own_below hown.out hbw.out)
                      have hwi : w.heap.size ≤ wr.heap.size := Nat.le_trans hw0 hbw.out.size
                      have HBI := Lib.hid (hbel.out.trans (hbw.out.mono hw0))
                      have hii : ¬ (F.length : Int) < (F.length : Int) := by omega
                      obtain ⟨k2, hk2⟩ : ∃ k2, endW blankC l j = k2 := ⟨_, rfl⟩
                      have hk2l : k2 ≤ s.size := by rw [← hk2, ← HLL.out]; exact endW_le _ _ _ (by rw [HLL.out]; exact hjn)
                      have hk2g : j ≤ k2 := by rw [← hk2]; exact endW_ge _ _ _
                      have hk2d : l.drop k2 = r2.dropWhile blankC := by rw [← hk2, endW_drop, HR2.out]
                      have HK2D := Lib.hid hk2d
                      rw [← HL.out] at hk2
                      have HK2 := Lib.hid hk2
                      have hjr : s.size - j = r2.length := by rw [← HR2.out, List.length_drop, HLL.out]
                      clear hk2d hk2 hb2 hstep hvv
                      go_wp2_with (first | (at_builtin; refine push1 (by rfl) _ _ _ (by rfl) 43 _ 2 32 Tryd.underlying37 infoPair (by rfl) (by omega) w.heap.size wr _ _ _ (by rfl) HOW.out [.string K, .string X] (by rfl) (by simp [Value.oneCell']) (by rfl) (by omega) (by omega) hwi ?_; intro gg cap w8 hgg hown8 hgr8 hb8 hsz8; have HO8 := Lib.hid hown8; have HB8 := Lib.hid (HBI.out.trans hb8); clear hown8 hgr8) | (go_at_call 37; refine (blanks_at s _ j k2 HK2.out _ (by omega) hsm hjn).mono ?_; rintro e w9 ⟨rfl, rfl⟩))
                      go_roundw
                      case rel => exact ⟨n, k2, r2, F ++ [(p1, v)], _, rfl, rfl, hk2l, by omega, by rw [HLP.out]; omega, HK2D, HFS2, HVN, Lib.hid (by rw [HSN.out, HLP.out]; exact HO8.out), HB8⟩
                      case measure => simp [intOf]; omega
        · rw [if_neg h59] at hsg
          have hx := b59 _ h59
          have hVf : V = .form := by
            have := hVV.out
            rw [loopL_nosign n r F tw hne (by rw [← hq.out]; exact hsg)] at this
            exact this
          subst hVf
          clear hsg hne h59
          go_wp2
          go_ret3
          exact ⟨rfl, hbel.out⟩
      · have hki : ¬ (k : Int) < (s.size : Int) := by omega
        have hv := hVV.out
        rw [loopL_done n r F tw (by rw [← hq.out, List.drop_of_length_le (by rw [HLL.out]; omega)])] at hv
        rcases tw with _ | _
        · replace hv : V = .ok m F := hv
          subst hv
          go_wp2
          go_ret3
          exact ⟨_, by rw [HMM.out]; rfl, hown.out, hbel.out⟩
        · replace hv : V = .twice := hv
          subst hv
          go_wp2
          go_ret3
          exact ⟨rfl, hbel.out⟩
end Go.Proofs.YtdfflbpifpoogaaDoor
