/- head.Params. -/
import Derived.Test.YtdfflbpifpoogaaDoorHpx
set_option linter.unusedVariables false
set_option synthInstance.maxSize 4000
namespace Nun
open Go Go.RowKit
theorem own_grown {w w' : World} {B e size n R : Nat} {v : Value} {xs : List Value} (h : w.ownsRow B e size v n xs) (k : w.grownBy w' (some R)) (hR : R < B) : w'.ownsRow B e size v n xs :=
  World.ownsRow.kept h k (.inr (fun e => by have := (h.lt R e).1; omega))
theorem loopL_done (n : Nat) (l : List UInt8) (F : List Fld) (tw : Bool) (h : l.dropWhile blankC = []) : loopL (n + 1) l F tw = some (F, tw) := by rw [loopL, if_pos h]
theorem loopL_nosign (n : Nat) (l : List UInt8) (F : List Fld) (tw : Bool) (h : ¬ l.dropWhile blankC = []) (hs : signL 59 (l.dropWhile blankC) = none) : loopL (n + 1) l F tw = none := by rw [loopL, if_neg h, hs]
theorem loopL_noparam (n : Nat) (l t : List UInt8) (F : List Fld) (tw : Bool) (h : ¬ l.dropWhile blankC = []) (hs : signL 59 (l.dropWhile blankC) = some t) (hp : paramL t = none) : loopL (n + 1) l F tw = none := by rw [loopL, if_neg h, hs]; dsimp only; rw [hp]
theorem loopL_step (n : Nat) (l t r : List UInt8) (p : Fld) (F : List Fld) (tw b : Bool) (h : ¬ l.dropWhile blankC = []) (hs : signL 59 (l.dropWhile blankC) = some t) (hp : paramL t = some (p, r)) (hb : (F.any fun q => foldL p.1 == foldL q.1) = b) : loopL (n + 1) l F tw = loopL n r (F ++ [p]) (tw || b) := by rw [loopL, if_neg h, hs]; dsimp only; rw [hp]; dsimp only; rw [hb]
theorem own_downp {w : World} {b b' : Nat} {e : TypeId} {size : Nat} {v : Value} {n : Nat} {xs : List Value} (h : w.ownsRow b e size v n xs) (hb : b' ≤ b) : w.ownsRow b' e size v n xs := ⟨h.1, h.2.imp id fun ⟨g, cap, cur, h1, h2, h3⟩ => ⟨g, cap, cur, h1, Nat.le_trans hb h2, h3⟩⟩
def strLen : Option Value → Nat
  | some (.string b) => b.size
  | _ => 0
theorem empty_iff (l : List UInt8) (S : ByteArray) (h : (⟨l.toArray⟩ : ByteArray) = S) (b : Bool) (hb : l.isEmpty = b) : S.toList.isEmpty = b := by
  rw [Lib.toList_data, ← h]; exact hb
end Nun
namespace Go.Proofs.YtdfflbpifpoogaaDoor
open Go Go.RowKit Nun
def paramsV : PRes → World → Ending → World → Prop
  | .form, w, e, w' => e = .returned (.tuple #[.string ⟨#[]⟩, .slice none 0 0, .int .i64 7]) ∧ Below w.heap.size w w'
  | .twice, w, e, w' => e = .returned (.tuple #[.string ⟨#[]⟩, .slice none 0 0, .int .i64 9]) ∧ Below w.heap.size w w'
  | .ok m l, w, e, w' => ∃ v, e = .returned (.tuple #[.string ⟨m.toArray⟩, v, .int .i64 0]) ∧ w'.ownsRow w.heap.size 43 2 v l.length (fldCells l) ∧ Below w.heap.size w w'
theorem infoPair : (Tryd.prog.info? 43).map (fun i => (i.zero, i.size, i.bytes)) = some (some (.agg #[.string ⟨#[]⟩, .string ⟨#[]⟩]), 2, 32) := by kernel_rfl
set_option maxHeartbeats 4000000 in
set_option maxRecDepth 100000 in
theorem params_any (s : ByteArray) (w : World) (hs : s.size ≤ 10000) (V : PRes) (hV : paramsL s.data.toList = V) : Calls Tryd.prog 14 #[.string s] w (paramsV V w) := by
  obtain ⟨l, hl⟩ : ∃ l, s.data.toList = l := ⟨_, rfl⟩
  have hll : l.length = s.size := by subst hl; rfl
  have hsl : (⟨l.toArray⟩ : ByteArray) = s := by subst hl; exact mk_list s
  obtain ⟨l1, h1⟩ : ∃ l1, l.dropWhile blankC = l1 := ⟨_, rfl⟩
  obtain ⟨m, hm⟩ : ∃ m, l1.takeWhile plainC = m := ⟨_, rfl⟩
  obtain ⟨l2, h2⟩ : ∃ l2, l1.dropWhile plainC = l2 := ⟨_, rfl⟩
  obtain ⟨l3, h3⟩ : ∃ l3, l2.dropWhile blankC = l3 := ⟨_, rfl⟩
  unfold paramsL at hV
  rw [hl, h1, hm, h2, hll] at hV
  have hl1 : l1.length ≤ s.size := by have := dropWhile_len blankC l; rw [h1] at this; omega
  have hl2 : l2.length ≤ s.size := by have := dropWhile_len plainC l1; rw [h2] at this; omega
  have hl1m : l1.length ≤ 1000000 := by omega
  have hb0 : Boxed (w.alloc (.cells #[.string s] 62)) w.heap.size 62 (.string ⟨l.toArray⟩) := by rw [hsl]; exact Boxed.new _ _ _
  obtain ⟨M, hM⟩ : ∃ M : ByteArray, (⟨m.toArray⟩ : ByteArray) = M := ⟨_, rfl⟩
  have HB0 := Lib.hid hb0; have H1 := Lib.hid h1; have HMM := Lib.hid hm; have H2 := Lib.hid h2; have H3 := Lib.hid h3; have HV := Lib.hid hV; have HM := Lib.hid hM
  clear hb0 h1 hm h2 h3 hV hl hsl hll hM
  go_enter Tryd.func14, Tryd.ntmps14
  go_wp2_with (first | (go_at_call 30; refine (blanks_head w.heap.size l _ HB0.out l1 H1.out).mono ?_; rintro e w1 ⟨rfl, hb1, hg1⟩; clear H1; have HG1 := Lib.hid hg1; have HB1 := Lib.hid hb1; clear hg1 hb1) | (go_at_call 31; refine (run_head w.heap.size l1 _ hl1m HB1.out m l2 HMM.out H2.out).mono ?_; rintro e w2 ⟨rfl, hb2, hg2⟩; rw [HM.out]; have HG2 := Lib.hid (HG1.out.trans hg2); have HB2 := Lib.hid hb2; clear hg2 hb2) | (go_at_call 30; refine (blanks_head w.heap.size l2 _ HB2.out l3 H3.out).mono ?_; rintro e w3 ⟨rfl, hb3, hg3⟩; have HG3 := Lib.hid (HG2.out.trans hg3); have HB3 := Lib.hid hb3; clear hg3 hb3))
  have hbel3 : Below w.heap.size w w3 := ((Below.refl _ _).alloc (Nat.le_refl _) _).trans (grown_below HG3.out (Nat.le_refl _) (by simp))
  have hRlt : w.heap.size + 1 ≤ w3.heap.size := Boxed.lt HB3.out
  go_loopw [7, 8, 9, 10] (fun v e _ _ wr => ∃ (n : Nat) (q r : List UInt8) (F : List Fld) (tw : Bool), e = .int .i64 (if tw = true then 9 else 0) ∧ r.length < n ∧ r.length + F.length ≤ s.size ∧ Hid (r.dropWhile blankC = q) ∧ Hid (∀ p ∈ F, p.1.length ≤ 1000000) ∧
      Hid (V = match loopL n r F tw with | none => PRes.form | some (out, tw) => if m = [] then .form else if tw then .twice else .ok m out) ∧
      Hid (wr.ownsRow (w.heap.size + 1) 43 2 v F.length (fldCells F)) ∧ Hid (Boxed wr w.heap.size 62 (.string ⟨q.toArray⟩)) ∧ Hid (Below w.heap.size w wr))
    (fun _ _ _ _ wr => strLen (wr.cell? ⟨w.heap.size, 0, none⟩))
  case atStart => exact ⟨s.size + 1, l3, l2, [], false, rfl, by omega, by simpa using hl2, H3, Lib.hid (by simp), Lib.hid HV.out.symm, Lib.hid (World.ownsRow_nil _ _ _ _), HB3, Lib.hid hbel3⟩
  case round =>
    obtain ⟨n, q, r, F, tw, rfl, hrn, hrF, hq, hFs, hVV, hown, hbox, hbel⟩ := hrel
    have hqr : q.length ≤ r.length := by have := dropWhile_len blankC r; rw [hq.out] at this; exact this
    have hqm : q.length ≤ 1000000 := by omega
    obtain ⟨S, hS⟩ : ∃ S : ByteArray, (⟨q.toArray⟩ : ByteArray) = S := ⟨_, rfl⟩
    have hcr := hbox.out.cell; have hfr := hbox.out.frozen
    rw [hS] at hcr
    obtain ⟨n, rfl⟩ : ∃ n', n = n' + 1 := ⟨n - 1, by omega⟩
    by_cases hq0 : q = []
    · have hem := empty_iff q S hS true (by rw [hq0]; rfl)
      have hv := hVV.out
      rw [loopL_done n r F tw (by rw [hq.out, hq0])] at hv
      dsimp only at hv
      clear hq0 hS
      by_cases hm0 : m = []
      · have hem2 := empty_iff m M HM.out true (by rw [hm0]; rfl)
        rw [if_pos hm0] at hv
        subst hv
        clear hm0
        rcases tw with _ | _
        all_goals
          go_wp2
          go_ret3
          exact ⟨rfl, hbel.out⟩
      · have hem2 := empty_iff m M HM.out false (by cases m <;> first | rfl | exact absurd rfl hm0)
        rw [if_neg hm0] at hv
        clear hm0
        rcases tw with _ | _
        · replace hv : V = .ok m F := hv
          subst hv
          go_wp2
          go_ret3
          exact ⟨_, by rw [← HM.out]; rfl, own_downp hown.out (Nat.le_succ _), hbel.out⟩
        · replace hv : V = .twice := hv
          subst hv
          go_wp2
          go_ret3
          exact ⟨rfl, hbel.out⟩
    · have hem := empty_iff q S hS false (by cases q <;> first | rfl | exact absurd rfl hq0)
      rcases hs1 : signL 59 q with _ | t
      · have hv := hVV.out
        rw [loopL_nosign n r F tw (by rw [hq.out]; exact hq0) (by rw [hq.out]; exact hs1)] at hv
        replace hv : V = .form := hv
        subst hv
        have HS := Lib.hid hs1
        clear hs1 hq0 hS
        rcases tw with _ | _
        all_goals
          go_wp2_with (go_at_call 32; refine (sign59 w.heap.size q _ hqm hbox.out none HS.out).mono ?_; rintro e w4 ⟨rfl, hb4, hg4⟩; clear HS; have HG4 := Lib.hid hg4; have HB4 := Lib.hid hb4; clear hb4 hg4)
          go_ret3
          exact ⟨rfl, hbel.out.trans (grown_below HG4.out (Nat.le_refl _) hbel.out.size)⟩
      · have htl : t.length + 1 = q.length := by have := congrArg List.length (signL_len hs1); rw [List.length_cons] at this; exact this.symm
        have htm : t.length ≤ 1000000 := by omega
        rcases hp1 : paramL t with _ | ⟨p, r2⟩
        · have hv := hVV.out
          rw [loopL_noparam n r t F tw (by rw [hq.out]; exact hq0) (by rw [hq.out]; exact hs1) hp1] at hv
          replace hv : V = .form := hv
          subst hv
          have HS := Lib.hid hs1; have HP := Lib.hid hp1
          clear hs1 hq0 hS hp1
          rcases tw with _ | _
          all_goals
            go_wp2_with (first | (go_at_call 32; refine (sign59 w.heap.size q _ hqm hbox.out (some t) HS.out).mono ?_; rintro e w4 ⟨rfl, hb4, hg4⟩; clear HS; have HG4 := Lib.hid hg4; have HB4 := Lib.hid hb4; clear hb4 hg4) | (go_at_call 33; refine (param_head w.heap.size t _ htm HB4.out none HP.out).mono ?_; rintro e w5 ⟨⟨a, b, rfl⟩, hg5⟩))
            go_ret3
            exact ⟨rfl, ((hbel.out.trans (grown_below HG4.out (Nat.le_refl _) hbel.out.size)).trans (grown_below hg5 (Nat.le_refl _) (Nat.le_trans hbel.out.size HG4.out.size))).alloc (Nat.le_trans (Nat.le_trans hbel.out.size HG4.out.size) hg5.size) _⟩
        · obtain ⟨hrl, hpl, hpv⟩ := paramL_len hp1
          dsimp only at hrl hpl hpv
          obtain ⟨K, hK⟩ : ∃ K : ByteArray, (⟨p.1.toArray⟩ : ByteArray) = K := ⟨_, rfl⟩
          obtain ⟨X, hX⟩ : ∃ X : ByteArray, (⟨p.2.toArray⟩ : ByteArray) = X := ⟨_, rfl⟩
          obtain ⟨q2, hq2⟩ : ∃ q2, r2.dropWhile blankC = q2 := ⟨_, rfl⟩
          have hq2l : q2.length ≤ r2.length := by have := dropWhile_len blankC r2; rw [hq2] at this; exact this
          have hKs : K.size ≤ 1000000 := by rw [← hK]; show p.1.length ≤ _; omega
          have hFl : F.length ≤ 1000000 := by omega
          have hFs2 : ∀ x ∈ F ++ [p], x.1.length ≤ 1000000 := by
            intro x hx
            rcases List.mem_append.1 hx with h | h
            · exact hFs.out x h
            · rw [List.mem_singleton.1 h]; omega
          have hsnoc : fldCells (F ++ [p]) = fldCells F ++ [.string K, .string X] := by rw [fldCells_snoc, hK, hX]
          have hKd : K.data.toList = p.1 := by rw [← hK]
          have hlp : (F ++ [p]).length = F.length + 1 := by rw [List.length_append]; rfl
          have hmes : q2.length < q.length := by omega
          rcases hcb : F.any (fun x => foldL p.1 == foldL x.1) with _ | _
          all_goals
            have hv := hVV.out
            rw [loopL_step n r t r2 p F tw _ (by rw [hq.out]; exact hq0) (by rw [hq.out]; exact hs1) hp1 hcb] at hv
            have HVN := Lib.hid hv
            have HS := Lib.hid hs1; have HP := Lib.hid hp1; have HKX := Lib.hid (And.intro hK hX); have HQ2 := Lib.hid hq2; have HFS2 := Lib.hid hFs2; have HSN := Lib.hid hsnoc; have HLP := Lib.hid hlp
            have HCB := Lib.hid hcb
            rw [← hKd] at HCB
            have HSS := Lib.hid hS
          · clear hs1 hq0 hS hp1 hcb hv hK hX hq2 hFs2 hsnoc hKd hlp
            rcases tw with _ | _
            all_goals
              go_wp2_with (first | (go_at_call 32; refine (sign59 w.heap.size q _ hqm hbox.out (some t) HS.out).mono ?_; rintro e w4 ⟨rfl, hb4, hg4⟩; clear HS; have HG4 := Lib.hid hg4; have HB4 := Lib.hid hb4; clear hb4 hg4) | (go_at_call 33; refine (param_head w.heap.size t _ htm HB4.out (some (p, r2)) HP.out).mono ?_; rintro e w5 ⟨rfl, hb5, hg5⟩; rw [HKX.out.1, HKX.out.2]; have hbe5 := (hbel.out.trans (grown_below HG4.out (Nat.le_refl _) hbel.out.size)).trans (grown_below hg5 (Nat.le_refl _) (Nat.le_trans hbel.out.size HG4.out.size)); have HO5 := Lib.hid (World.ownsRow.alloc (own_grown (own_grown hown.out HG4.out (Nat.lt_succ_self _)) hg5 (Nat.lt_succ_self _)) (.cells #[.string K, .string X] 43)); have HB5 := Lib.hid (Boxed.alloc hb5 (.cells #[.string K, .string X] 43)); have HPN := Lib.hid (PairAt.new w5 43 K X); have hR5 : w.heap.size + 1 ≤ w5.heap.size := Boxed.lt hb5; have HBE5 := Lib.hid (hbe5.alloc hbe5.size (.cells #[.string K, .string X] 43)); clear hb5 hg5 hbe5) | (go_at_call 34; refine (containsFunc_any w5.heap.size (w.heap.size + 1) K X F _ false _ HPN.out HO5.out hKs hFl hFs.out HCB.out).mono ?_; rintro e w7 ⟨rfl, hb7⟩; have hP7 := HPN.out.below hb7; have c70 := hP7.cell0; have c71 := hP7.cell1; have HO7 := Lib.hid (own_below HO5.out hb7); have HB7 := Lib.hid ((hb7.block _ HB5.out.lt).trans HB5.out); have HBE7 := Lib.hid (HBE5.out.trans (hb7.mono HBE5.out.size)); have hR7 : w.heap.size + 1 ≤ w7.heap.size := (by have := hb7.size; simp at this; omega); clear hb7 hP7) | (at_builtin; refine push1 (by rfl) _ _ _ (by rfl) 43 _ 2 32 Tryd.underlying37 infoPair (by rfl) (by omega) (w.heap.size + 1) w7 _ _ _ (by rfl) HO7.out [.string K, .string X] (by rfl) (by simp [Value.oneCell']) (by rfl) (by omega) (by omega) hR7 ?_; intro gg cap w8 hgg hown8 hgr8 hb8 hsz8; have HO8 := Lib.hid hown8; have HB8 := Lib.hid ((hb8.block _ (Nat.lt_succ_self _)).trans HB7.out); have HBE8 := Lib.hid (HBE7.out.trans (hb8.mono (Nat.le_succ _))); clear hown8 hgr8) | (go_at_call 30; refine (blanks_head w.heap.size r2 _ HB8.out q2 HQ2.out).mono ?_; rintro e w9 ⟨rfl, hb9, hg9⟩))
              go_roundw
              case rel => exact ⟨n, q2, r2, F ++ [p], _, rfl, by omega, by rw [HLP.out]; omega, HQ2, HFS2, HVN, Lib.hid (by rw [HSN.out, HLP.out]; exact own_grown HO8.out hg9 (Nat.lt_succ_self _)), Lib.hid hb9, Lib.hid (HBE8.out.trans (grown_below hg9 (Nat.le_refl _) HBE8.out.size))⟩
              case measure => rw [hcr, hb9.cell, ← HSS.out]; exact hmes
          · clear hs1 hq0 hS hp1 hcb hv hK hX hq2 hFs2 hsnoc hKd hlp
            rcases tw with _ | _
            all_goals
              go_wp2_with (first | (go_at_call 32; refine (sign59 w.heap.size q _ hqm hbox.out (some t) HS.out).mono ?_; rintro e w4 ⟨rfl, hb4, hg4⟩; clear HS; have HG4 := Lib.hid hg4; have HB4 := Lib.hid hb4; clear hb4 hg4) | (go_at_call 33; refine (param_head w.heap.size t _ htm HB4.out (some (p, r2)) HP.out).mono ?_; rintro e w5 ⟨rfl, hb5, hg5⟩; rw [HKX.out.1, HKX.out.2]; have hbe5 := (hbel.out.trans (grown_below HG4.out (Nat.le_refl _) hbel.out.size)).trans (grown_below hg5 (Nat.le_refl _) (Nat.le_trans hbel.out.size HG4.out.size)); have HO5 := Lib.hid (World.ownsRow.alloc (own_grown (own_grown hown.out HG4.out (Nat.lt_succ_self _)) hg5 (Nat.lt_succ_self _)) (.cells #[.string K, .string X] 43)); have HB5 := Lib.hid (Boxed.alloc hb5 (.cells #[.string K, .string X] 43)); have HPN := Lib.hid (PairAt.new w5 43 K X); have hR5 : w.heap.size + 1 ≤ w5.heap.size := Boxed.lt hb5; have HBE5 := Lib.hid (hbe5.alloc hbe5.size (.cells #[.string K, .string X] 43)); clear hb5 hg5 hbe5) | (go_at_call 34; refine (containsFunc_any w5.heap.size (w.heap.size + 1) K X F _ true _ HPN.out HO5.out hKs hFl hFs.out HCB.out).mono ?_; rintro e w7 ⟨rfl, hb7⟩; have hP7 := HPN.out.below hb7; have c70 := hP7.cell0; have c71 := hP7.cell1; have HO7 := Lib.hid (own_below HO5.out hb7); have HB7 := Lib.hid ((hb7.block _ HB5.out.lt).trans HB5.out); have HBE7 := Lib.hid (HBE5.out.trans (hb7.mono HBE5.out.size)); have hR7 : w.heap.size + 1 ≤ w7.heap.size := (by have := hb7.size; simp at this; omega); clear hb7 hP7) | (at_builtin; refine push1 (by rfl) _ _ _ (by rfl) 43 _ 2 32 Tryd.underlying37 infoPair (by rfl) (by omega) (w.heap.size + 1) w7 _ _ _ (by rfl) HO7.out [.string K, .string X] (by rfl) (by simp [Value.oneCell']) (by rfl) (by omega) (by omega) hR7 ?_; intro gg cap w8 hgg hown8 hgr8 hb8 hsz8; have HO8 := Lib.hid hown8; have HB8 := Lib.hid ((hb8.block _ (Nat.lt_succ_self _)).trans HB7.out); have HBE8 := Lib.hid (HBE7.out.trans (hb8.mono (Nat.le_succ _))); clear hown8 hgr8) | (go_at_call 30; refine (blanks_head w.heap.size r2 _ HB8.out q2 HQ2.out).mono ?_; rintro e w9 ⟨rfl, hb9, hg9⟩))
              go_roundw
              case rel => exact ⟨n, q2, r2, F ++ [p], _, rfl, by omega, by rw [HLP.out]; omega, HQ2, HFS2, HVN, Lib.hid (by rw [HSN.out, HLP.out]; exact own_grown HO8.out hg9 (Nat.lt_succ_self _)), Lib.hid hb9, Lib.hid (HBE8.out.trans (grown_below hg9 (Nat.le_refl _) HBE8.out.size))⟩
              case measure => rw [hcr, hb9.cell, ← HSS.out]; exact hmes
end Go.Proofs.YtdfflbpifpoogaaDoor
