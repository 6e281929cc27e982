/- nuncioref13.Split. -/
import Derived.Test.YtdfflbpifpoogaaDoorHre
import Derived.Test.YtdfflbpifpoogaaDoorTai
import Derived.IntWalk
import Derived.Deep.RegionHeld3
import Derived.Deep.AppendLies
import Derived.StillTactics
import Derived.OwnWalk
set_option linter.unusedVariables false
set_option synthInstance.maxSize 4000
namespace Nun
open Go Go.RowKit
theorem step_ne {st st' : List Fld × Bool} {l : List UInt8} (h : lineStep st l = some st') : st'.1 ≠ [] := by
  unfold lineStep at h
  split at h
  · cases h
  · split at h
    · split at h
      · cases h
      · cases h; simp
    · split at h
      · cases h
      · split at h
        · cases h; simp
        · cases h
theorem lines_ne : ∀ (ls : List (List UInt8)) (st st' : List Fld × Bool), linesL ls st = some st' → ls ≠ [] → st'.1 ≠ []
  | [], st, st', _, h => absurd rfl h
  | [l], st, st', h, _ => by
    rw [linesL, List.foldlM_cons] at h
    obtain ⟨s1, h1, h2⟩ := Option.bind_eq_some_iff.1 h
    simp at h2; rw [← h2]; exact step_ne h1
  | l :: m :: ls, st, st', h, _ => by
    rw [linesL, List.foldlM_cons] at h
    obtain ⟨s1, h1, h2⟩ := Option.bind_eq_some_iff.1 h
    exact lines_ne (m :: ls) s1 st' h2 (by simp)
theorem lines_step (ls : List (List UInt8)) (k : Nat) (st0 st : List Fld × Bool) (hk : k < ls.length) (h : linesL (ls.take k) st0 = some st) : linesL (ls.take (k + 1)) st0 = lineStep st ls[k] := by
  rw [List.take_succ_eq_append_getElem hk, linesL_snoc, h]; rfl
theorem lines_bad (ls : List (List UInt8)) (k : Nat) (st0 st : List Fld × Bool) (hk : k < ls.length) (h : linesL (ls.take k) st0 = some st) (hb : lineStep st ls[k] = none) : linesL ls st0 = none := by
  have h1 := lines_step ls k st0 st hk h
  rw [hb] at h1
  have : ls = ls.take (k + 1) ++ ls.drop (k + 1) := (List.take_append_drop _ _).symm
  rw [this]; unfold linesL at h1 ⊢
  rw [List.foldlM_append, h1]; rfl
theorem row_more {w : World} {B e g cap m : Nat} {F0 : List Fld} {q : Fld} {p : ByteArray} (hrow : w.ownsRow B e 2 (.slice (some ⟨g, 0, none⟩) (m + 1) cap) (m + 1) (fldCells F0 ++ [.string ⟨q.1.toArray⟩, .string ⟨q.2.toArray⟩])) (hm : F0.length = m) :
    (w.setCell ⟨g, m * 2 + 1, none⟩ (.string (⟨q.2.toArray⟩ ++ p))).ownsRow B e 2 (.slice (some ⟨g, 0, none⟩) (m + 1) cap) (F0 ++ [(q.1, q.2 ++ p.data.toList)]).length (fldCells (F0 ++ [(q.1, q.2 ++ p.data.toList)])) := by
  have := (hrow.stored (m * 2 + 1) (.string (⟨q.2.toArray⟩ ++ p))).1
  rw [fldCells_snoc]
  dsimp only
  rw [List.length_append, hm, List.length_singleton]
  rw [List.set_append_right _ _ (by rw [fldCells_len]; omega), fldCells_len, hm, show m * 2 + 1 - m * 2 = 1 by omega] at this
  have e : (ByteArray.mk q.2.toArray ++ p) = ⟨(q.2 ++ p.data.toList).toArray⟩ := by
    apply ByteArray.ext; apply Array.ext'; simp
  rw [e] at this
  rw [← e]; rw [← e] at this
  exact this
theorem ext_take (p : ByteArray) (d : Nat) : p.extract 0 d = ⟨(p.data.toList.take d).toArray⟩ := by
  apply ByteArray.ext; apply Array.ext'
  rw [Lib.extract_data, List.drop_zero, Nat.sub_zero]
theorem ext_drop (p : ByteArray) (d : Nat) : p.extract d p.size = ⟨(p.data.toList.drop d).toArray⟩ := by
  apply ByteArray.ext; apply Array.ext'
  rw [Lib.extract_data, List.take_of_length_le (by rw [List.length_drop]; exact Nat.le_refl _)]
theorem row_push {w : World} {B e : Nat} {v : Value} {F : List Fld} {a b : List UInt8} {X Y : ByteArray} (h : w.ownsRow B e 2 v (F.length + 1) (fldCells F ++ [.string X, .string Y])) (hX : X = ⟨a.toArray⟩) (hY : Y = ⟨b.toArray⟩) : w.ownsRow B e 2 v (F.length + 1) (fldCells (F ++ [(a, b)])) := by
  subst hX; subst hY
  rw [fldCells_snoc]; exact h
theorem own_down {w : World} {b b' : Nat} {e : TypeId} {size : Nat} {v : Value} {n : Nat} {xs : List Value} (h : w.ownsRow b e size v n xs) (hb : b' ≤ b) : w.ownsRow b' e size v n xs := ⟨h.1, h.2.imp id fun ⟨g, cap, cur, h1, h2, h3⟩ => ⟨g, cap, cur, h1, Nat.le_trans hb h2, h3⟩⟩
/-- The fields of which the first k are trimK. -/
def trimK (F : List Fld) (k : Nat) : List Fld := (F.take k).map (fun p => (p.1, trimB p.2)) ++ F.drop k
theorem trimmed_step (F : List Fld) (k : Nat) (hk : k < F.length) (q : Fld) (hq : F[k] = q) : (fldCells (trimK F k)).length = F.length * 2 ∧ (fldCells (trimK F k))[k * 2 + 1]? = some (.string ⟨q.2.toArray⟩) ∧ (fldCells (trimK F k)).set (k * 2 + 1) (.string ⟨(trimB q.2).toArray⟩) = fldCells (trimK F (k + 1)) := by
  have hmix : fldCells (trimK F k) = fldCells ((F.take k).map (fun p => (p.1, trimB p.2))) ++ ([.string ⟨q.1.toArray⟩, .string ⟨q.2.toArray⟩] ++ fldCells (F.drop (k + 1))) := by
    unfold trimK
    rw [List.drop_eq_getElem_cons hk, hq]; simp [fldCells]
  have hml : (fldCells ((F.take k).map (fun p => (p.1, trimB p.2)))).length = k * 2 := by rw [fldCells_len, List.length_map, List.length_take]; omega
  refine ⟨?_, ?_, ?_⟩
  · rw [fldCells_len]; unfold trimK; rw [List.length_append, List.length_map, List.length_take, List.length_drop]; omega
  · rw [hmix, List.getElem?_append_right (by omega), hml, show k * 2 + 1 - k * 2 = 1 by omega]; rfl
  · rw [hmix, List.set_append_right _ _ (by rw [hml]; omega), hml, show k * 2 + 1 - k * 2 = 1 by omega]
    unfold trimK
    rw [List.take_succ_eq_append_getElem hk, hq]
    simp [fldCells]
theorem ne58 : ∀ d : UInt8, d ≠ 58 → ((d.toNat : Int) != 58) = true := by decide +kernel
theorem long_or (L : Bool) (p : ByteArray) (b : Bool) (h : (L || decide ((998 : Int) < p.size)) = b) : Value.bool b = .bool (L || decide (998 < p.data.toList.length)) := by
  rw [← h]; congr 2
  rw [decide_eq_decide, show p.data.toList.length = p.size from rfl]; omega
/-- A row of texts that can be read. -/
def StrRow (v : Value) (ls : List (List UInt8)) (w : World) : Prop := ∃ a n cap, v = .slice a n cap ∧ n = ls.length ∧ n ≤ cap ∧ (n = 0 ∨ ∃ g o, a = some ⟨g, o, none⟩ ∧ g < w.heap.size ∧ ∀ (j : Nat) (x : List UInt8), ls[j]? = some x → w.cell? ⟨g, o + j, none⟩ = some (.string ⟨x.toArray⟩))
theorem strRow_own {w : World} {B e : Nat} {v : Value} {ls : List (List UInt8)} (h : w.ownsRow B e 1 v ls.length (strCells ls)) : StrRow v ls w := by
  rcases row_form h with ⟨rfl, h0⟩ | ⟨g, cap, rfl, hB, hg, hc⟩
  · exact ⟨_, _, _, rfl, h0.symm, Nat.le_refl _, .inl rfl⟩
  · refine ⟨_, _, _, rfl, rfl, hc, .inr ⟨g, 0, rfl, hg, fun j x hj => ?_⟩⟩
    have hjl := (List.getElem?_eq_some_iff.1 hj).1
    have := h.cellAt j (by omega)
    rw [Nat.zero_add, this, strCells, List.getElem?_map, hj]; rfl
end Nun
namespace Go.Proofs.YtdfflbpifpoogaaDoor
open Go Go.RowKit Nun
def splitRV : Split → World → Ending → World → Prop
  | .form, w, e, w' => e = .returned (.tuple #[.slice none 0 0, .int .i64 0, .int .i64 7]) ∧ Below w.heap.size w w'
  | .long, w, e, w' => e = .returned (.tuple #[.slice none 0 0, .int .i64 0, .int .i64 6]) ∧ Below w.heap.size w w'
  | .ok l b, w, e, w' => ∃ v, e = .returned (.tuple #[v, .int .i64 b, .int .i64 0]) ∧ w'.ownsRow w.heap.size 45 2 v l.length (fldCells l) ∧ Below w.heap.size w w'
theorem right_of (s : ByteArray) (b : Bool) (h : s.data.toList.all shownC = b) (w : World) (hs : s.size ≤ maxLen) : Calls Tryd.prog 26 #[.string s] w (Same (.bool b) w) := h ▸ right_ref s w hs
theorem namer_of (s : ByteArray) (b : Bool) (h : nameL s.data.toList = b) (w : World) (hs : s.size ≤ maxLen) : Calls Tryd.prog 28 #[.string s] w (Same (.bool b) w) := h ▸ name_ref s w hs
theorem blankr_of (c : UInt8) (b : Bool) (h : blankC c = b) (w : World) : Calls Tryd.prog 27 #[.int .u8 c.toNat] w (Same (.bool b) w) := h ▸ blank_ref13 c w
theorem infoFieldR : (Tryd.prog.info? 45).map (fun i => (i.zero, i.size, i.bytes)) = some (some (.agg #[.string ⟨#[]⟩, .string ⟨#[]⟩]), 2, 32) := by kernel_rfl
set_option maxHeartbeats 4000000 in
set_option maxRecDepth 100000 in
theorem split_ref (s : ByteArray) (w : World) (hs : s.size ≤ 10000) (V : Split) (hV : splitL s.data.toList = V) : Calls Tryd.prog 10 #[.string s] w (splitRV V w) := by
  rcases hR : linesR (itL s.data.toList 0) with _ | ⟨ls, at_⟩
  · have hform : V = .form := by rw [← hV]; unfold splitL; rw [runHead_none _ _ hR]
    subst hform
    have HR := Lib.hid hR; clear hR hV
    go_enter Tryd.func10, Tryd.ntmps10
    go_wp2_with (go_at_call 25; refine (lines_ref s _ (by omega) none HR.out).mono ?_; rintro e w1 ⟨rfl, hb1⟩)
    go_ret3
    exact ⟨rfl, hb1⟩
  · have hrun := runHead_some _ ([], false) _ _ hR
    have hlen : ls.length ≤ 10000 ∧ ∀ x ∈ ls, x.length ≤ 10000 := by
      have h1 := linesR_len _ _ _ hR
      have h2 := itL_count _ s.data.toList 0 (Nat.le_refl _)
      refine ⟨Nat.le_trans h1.1 (Nat.le_trans h2 hs), fun x hx => ?_⟩
      obtain ⟨b, hb⟩ := h1.2 x hx
      exact Nat.le_trans (itL_short _ _ _ (Nat.le_refl _) _ hb) hs
    have hne := linesR_ne _ _ _ hR
    have HR := Lib.hid hR
    have hVV : V = match linesL ls ([], false) with | none => .form | some (_, true) => .long | some (f, false) => .ok (f.map fun p => (p.1, trimB p.2)) at_ := by
      rw [← hV]; unfold splitL; rw [hrun]
      rcases linesL ls ([], false) with _ | ⟨f, _ | _⟩ <;> rfl
    have HV := Lib.hid hVV
    obtain ⟨hln, hlx⟩ := hlen
    have HX := Lib.hid hlx; have HNE := Lib.hid hne
    clear hR hV hrun hVV hlx hne
    go_enter Tryd.func10, Tryd.ntmps10
    go_wp2_with (go_at_call 25; refine (lines_ref s _ (by omega) _ HR.out).mono ?_; rintro e w1 ⟨v, rfl, hown, hb1⟩; obtain ⟨a0, n0, cap0, rfl, hn0, hc0, hr0⟩ := strRow_own hown; have HN0 := Lib.hid hn0; have HR0 := Lib.hid hr0; clear hown hn0 hr0)
    have hbs := hb1.size
    go_loopw [8, 9, 10, 11, 12] (fun v lg i _ _ wr => ∃ (k : Nat) (F : List Fld) (L : Bool), i = .int .i64 k ∧ k ≤ n0 ∧ lg = .bool L ∧ wr.ownsRow w1.heap.size 45 2 v F.length (fldCells F) ∧ Below w1.heap.size w1 wr ∧ Hid (linesL (ls.take k) ([], false) = some (F, L)))
      (fun _ _ i _ _ _ => n0 - (intOf i).toNat)
    case atStart => exact ⟨0, [], false, rfl, Nat.zero_le _, rfl, World.ownsRow_made (size := 2) w1 _ 0 (Nat.le_refl _) (by decide) (by decide), (Below.refl _ _).alloc (Nat.le_refl _) _, Lib.hid rfl⟩
    case round =>
      obtain ⟨k, F, L, rfl, hk, rfl, hown, hbel, hst⟩ := hrel
      have hbelw : Below w.heap.size w wr := hb1.trans (hbel.mono hbs)
      by_cases hlt : k < n0
      · have hkl : k < ls.length := by rw [← HN0.out]; exact hlt
        obtain ⟨g, o, rfl, hg, hrow⟩ := HR0.out.resolve_left (by omega)
        obtain ⟨p, hp⟩ : ∃ p : ByteArray, (⟨ls[k].toArray⟩ : ByteArray) = p := ⟨_, rfl⟩
        have hpl : p.data.toList = ls[k] := by rw [← hp]
        have hcell := (hbel.cell (p := ⟨g, o + k, none⟩) hg).trans (hrow k _ (List.getElem?_eq_getElem hkl))
        rw [hp] at hcell
        have hgwr : g < wr.heap.size := Nat.lt_of_lt_of_le hg hbel.size
        have hps : p.size ≤ 10000 := by
          have := HX.out ls[k] (List.getElem_mem _)
          rw [← hpl] at this; exact this
        have hpne : p.data.toList ≠ [] := by rw [hpl]; exact HNE.out _ (List.getElem_mem _)
        have hpos : 0 < p.size := by
          rcases Nat.eq_zero_or_pos p.size with h | h
          · exact absurd (List.eq_nil_of_length_eq_zero h) hpne
          · exact h
        have hpm : p.size ≤ maxLen := by unfold maxLen; omega
        have hLl : L = true ∨ (L = false ∧ (998 : Int) < p.size) ∨ (L = false ∧ ¬ (998 : Int) < p.size) := by
          rcases L with _ | _
          · by_cases h : (998 : Int) < p.size
            · exact .inr (.inl ⟨rfl, h⟩)
            · exact .inr (.inr ⟨rfl, h⟩)
          · exact .inl rfl
        have hbadV : lineStep (F, L) p.data.toList = none → V = .form := by
          intro h
          rw [hpl] at h
          rw [HV.out, lines_bad ls k _ _ hkl hst.out h]
        have HPL := Lib.hid hpl; have HBV := Lib.hid hbadV; have HLL := Lib.hid hLl; have HKL := Lib.hid hkl
        have HRW := Lib.hid hrow
        clear hp hpl hbadV hLl hrow hpne
        have hhead := head_blank p hpos
        rcases hsh : p.data.toList.all shownC with _ | _
        · have hVf := HBV.out (step_hid hsh)
          have HSH := Lib.hid hsh
          subst hVf
          clear hsh hhead
          rcases HLL.out with rfl | ⟨rfl, hll⟩ | ⟨rfl, hll⟩
          all_goals
            go_wp2_with (go_at_call 26; refine (right_of p false HSH.out _ hpm).mono ?_; rintro e w2 ⟨rfl, rfl⟩)
            go_ret3
            exact ⟨rfl, hbelw⟩
        · rcases hbl : blankC p[0] with _ | _
          · rw [hbl] at hhead
            have HSH := Lib.hid hsh; have HBL := Lib.hid hbl
            rcases hco : byteAt 58 p.data.toList with _ | c
            · have hVf := HBV.out (step_nocolon hhead hco)
              have hnc : ∀ j, (hj : j < p.size) → ((p[j].toNat : Int) != 58) = true := by
                intro j hj
                have := byteAt_none hco j
                rw [List.getElem?_eq_getElem (show j < p.data.toList.length from hj)] at this
                have h2 : p[j] ≠ 58 := fun h => this (by rw [← h]; rfl)
                exact ne58 _ h2
              have HNC := Lib.hid hnc
              subst hVf
              clear hsh hbl hhead hco hnc
              rcases HLL.out with rfl | ⟨rfl, hll⟩ | ⟨rfl, hll⟩
              all_goals
                go_wp2_with (first | (go_at_call 26; refine (right_of p true HSH.out _ hpm).mono ?_; rintro e w2 ⟨rfl, rfl⟩) | (go_at_call 27; refine (blankr_of _ false HBL.out _).mono ?_; rintro e w2 ⟨rfl, rfl⟩))
                go_loopw [12] (fun j w4 => ∃ d : Nat, j = .int .i64 d ∧ d ≤ p.size ∧ w4 = wr) (fun j _ => p.size - (intOf j).toNat)
                case atStart => exact ⟨0, rfl, Nat.zero_le _, rfl⟩
                case round =>
                  obtain ⟨d, rfl, hd, rfl⟩ := hrel
                  by_cases hdl : d < p.size
                  · have hq := HNC.out d hdl
                    go_wp2
                    go_roundw
                    case rel => exact ⟨d + 1, by go_num, by omega, trivial⟩
                    case measure => simp [intOf]; omega
                  · obtain rfl : d = p.size := by omega
                    go_wp2
                    go_ret3
                    exact ⟨rfl, hbelw⟩
            · have hcl := byteAt_lt hco
              rw [show p.data.toList.length = p.size from rfl] at hcl
              have hnc : ∀ j, (hj : j < c) → ((p[j].toNat : Int) != 58) = true := by
                intro j hj
                have := byteAt_first hco j hj
                rw [List.getElem?_eq_getElem (show j < p.data.toList.length from Nat.lt_trans hj hcl)] at this
                have h2 : p[j] ≠ 58 := fun h => this (by rw [← h]; rfl)
                exact ne58 _ h2
              have hcc : ((p[c].toNat : Int) != 58) = false := by
                have := byteAt_some hco
                rw [List.getElem?_eq_getElem (show c < p.data.toList.length from hcl)] at this
                have h2 : p[c] = 58 := Option.some.inj this
                rw [h2]; rfl
              have HNC := Lib.hid hnc
              rcases hna : nameL (p.data.toList.take c) with _ | _
              · have hVf := HBV.out (step_noname hhead hco hna)
                have HNA := Lib.hid hna
                subst hVf
                clear hsh hbl hhead hco hnc hna
                rcases HLL.out with rfl | ⟨rfl, hll⟩ | ⟨rfl, hll⟩
                all_goals
                  go_wp2_with (first | (go_at_call 26; refine (right_of p true HSH.out _ hpm).mono ?_; rintro e w2 ⟨rfl, rfl⟩) | (go_at_call 27; refine (blankr_of _ false HBL.out _).mono ?_; rintro e w2 ⟨rfl, rfl⟩))
                  go_loopw [12] (fun j w4 => ∃ d : Nat, j = .int .i64 d ∧ d ≤ c ∧ w4 = wr) (fun j _ => p.size - (intOf j).toNat)
                  case atStart => exact ⟨0, rfl, Nat.zero_le _, rfl⟩
                  case round =>
                    obtain ⟨d, rfl, hd, rfl⟩ := hrel
                    by_cases hdl : d < c
                    · have hdp : d < p.size := by omega
                      have hq := HNC.out d hdl
                      go_wp2
                      go_roundw
                      case rel => exact ⟨d + 1, by go_num, by omega, trivial⟩
                      case measure => simp [intOf]; omega
                    · obtain rfl : d = c := by omega
                      have hnl : ((d : Int) == (p.size : Int)) = false := by rw [beq_eq_false_iff_ne]; omega
                      go_wp2_with (go_at_call 28; refine (namer_of (p.extract 0 d) false (by rw [Lib.extract_data, List.drop_zero, Nat.sub_zero]; exact HNA.out) _ (by rw [ByteArray.size_extract]; unfold maxLen; omega)).mono ?_; rintro e w2 ⟨rfl, rfl⟩)
                      go_ret3
                      exact ⟨rfl, hbelw⟩
              · obtain ⟨i0, hi0, hz0, hz1, hz2⟩ := info_parts infoFieldR
                have hstep := step_field (st := (F, L)) hsh hhead hco hna
                have hnext : linesL (ls.take (k + 1)) ([], false) = some (F ++ [(p.data.toList.take c, p.data.toList.drop (c + 1))], L || decide (998 < p.data.toList.length)) := by rw [lines_step ls k _ _ HKL.out hst.out, ← HPL.out]; exact hstep
                have hFl : F.length ≤ k := by
                  have := lines_len _ _ _ hst.out
                  rw [List.length_take] at this
                  simp only [List.length_nil, Nat.zero_add] at this; omega
                have HNX := Lib.hid hnext
                have HNA := Lib.hid hna
                clear hsh hbl hhead hco hnc hna hstep hnext
                rcases HLL.out with rfl | ⟨rfl, hll⟩ | ⟨rfl, hll⟩
                all_goals
                  go_wp2_with (first | (go_at_call 26; refine (right_of p true HSH.out _ hpm).mono ?_; rintro e w2 ⟨rfl, rfl⟩) | (go_at_call 27; refine (blankr_of _ false HBL.out _).mono ?_; rintro e w2 ⟨rfl, rfl⟩))
                  go_loopw [12] (fun j w4 => ∃ d : Nat, j = .int .i64 d ∧ d ≤ c ∧ w4 = wr) (fun j _ => p.size - (intOf j).toNat)
                  case atStart => exact ⟨0, rfl, Nat.zero_le _, rfl⟩
                  case round =>
                    obtain ⟨d, rfl, hd, rfl⟩ := hrel
                    by_cases hdl : d < c
                    · have hdp : d < p.size := by omega
                      have hq := HNC.out d hdl
                      go_wp2
                      go_roundw
                      case rel => exact ⟨d + 1, by go_num, by omega, trivial⟩
                      case measure => simp [intOf]; omega
                    · obtain rfl : d = c := by omega
                      have hnl : ((d : Int) == (p.size : Int)) = false := by rw [beq_eq_false_iff_ne]; omega
                      go_wp2_with (go_at_call 28; refine (namer_of (p.extract 0 d) true (by rw [Lib.extract_data, List.drop_zero, Nat.sub_zero]; exact HNA.out) _ (by rw [ByteArray.size_extract]; unfold maxLen; omega)).mono ?_; rintro e w2 ⟨rfl, rfl⟩)
                      have hw1 : IntKind.i64.wrap ((d : Int) + 1) = (d : Int) + 1 := IntWalk.i64_in _ (by omega)
                      have hw2 : (0 : Int) ≤ (d : Int) + 1 := by omega
                      have hw3 : ((d : Int) + 1).toNat = d + 1 := by omega
                      have hw4 : (k : Int) < (n0 : Int) := by omega
                      have hw5 : (0 : Int) ≤ (d : Int) := by omega
                      have hw6 : (d : Int) ≤ (p.size : Int) := by omega
                      have hw7 : (d : Int) + 1 ≤ (p.size : Int) := by omega
                      have hw8 : (d : Int).toNat = d := by omega
                      have hfar : (u8 : Value).ownBlock ≠ some g := by
                        intro e
                        have := (hown.lt g e).1
                        omega
                      obtain ⟨X, hX⟩ : ∃ X : ByteArray, p.extract 0 d = X := ⟨_, rfl⟩
                      obtain ⟨Y, hY⟩ : ∃ Y : ByteArray, p.extract (d + 1) p.size = Y := ⟨_, rfl⟩
                      have hwb : w1.heap.size ≤ wr.heap.size := hbel.size
                      go_region_held3 (fun w' => w'.cell? ⟨g, o + k, none⟩ = some (.string p)) (first | go_keep | exact hcell | (rw [hgrow.cell_far _ (by simp; omega) (Ne.symm hfar)]; first | assumption | go_keep))
                        ((refine step_append_lies _ (by rfl) _ _ _ (by rfl) w1.heap.size 45 i0 _ 2 32 Tryd.underlying27 hi0 hz0 hz1 hz2 rfl (by omega) u8 F.length (fldCells F) (by rfl) ((hown.alloc _).drew)
                              ⟨wr.heap.size, 0, none⟩ 1 1 [.string X, .string Y] (by rfl) (by rfl) (World.news_of_block (cs := #[.string X, .string Y]) (t := 45) (fr := (0, 0)) (heap_alloc_new wr _)) (by simp [Value.oneCell'])
                              (by omega) (by unfold maxLen; omega) (by omega) (by simp; omega) (wr.heap.size + 1) (by simp) ?_; intro gg cap w5 hown5 hgrow hat hlt5))
                      have HRO := Lib.hid (row_push hown5 (show X = ⟨(p.data.toList.take d).toArray⟩ by rw [← hX]; exact ext_take _ _) (show Y = ⟨(p.data.toList.drop (d + 1)).toArray⟩ by rw [← hY]; exact ext_drop _ _))
                      have HBE := Lib.hid (Below.grown (((hbel.alloc hwb _).drew)) hgrow (by simp; omega) (fun k h => (hown.lt k h).1))
                      clear hown5 hgrow hX hY
                      go_wp2
                      go_roundw
                      case rel => exact ⟨k + 1, F ++ [(p.data.toList.take d, p.data.toList.drop (d + 1))], _, by go_num, by omega, long_or _ p _ (by first | rfl | simp [*]), by rw [List.length_append]; exact HRO.out, HBE.out, HNX⟩
                      case measure => simp [intOf]; omega
          · rw [hbl] at hhead
            have HSH := Lib.hid hsh; have HBL := Lib.hid hbl; have HH := Lib.hid hhead
            clear hsh hbl hhead
            rcases Nat.eq_zero_or_pos k with h0 | hk0
            · have hF : F = [] := by
                have := hst.out; rw [h0] at this
                simp [linesL] at this; exact this.1
              have hVf := HBV.out (step_blank_nil HH.out hF)
              subst hVf
              have hk0 : ((k : Int) == 0) = true := by rw [h0]; rfl
              clear hF h0
              rcases HLL.out with rfl | ⟨rfl, hll⟩ | ⟨rfl, hll⟩
              all_goals
                go_wp2_with (first | (go_at_call 26; refine (right_of p true HSH.out _ hpm).mono ?_; rintro e w2 ⟨rfl, rfl⟩) | (go_at_call 27; refine (blankr_of _ true HBL.out _).mono ?_; rintro e w2 ⟨rfl, rfl⟩))
                go_ret3
                exact ⟨rfl, hbelw⟩
            · have hFne : F ≠ [] := lines_ne _ _ _ hst.out (by intro h; have h2 := congrArg List.length h; rw [List.length_take, List.length_nil] at h2; have := HKL.out; omega)
              obtain ⟨F0, q, rfl⟩ : ∃ F0 q, F = F0 ++ [q] := ⟨F.dropLast, F.getLast hFne, (List.dropLast_concat_getLast hFne).symm⟩
              have hFl : (F0 ++ [q]).length ≤ k := by
                have := lines_len _ _ _ hst.out
                rw [List.length_take] at this
                simp only [List.length_nil, Nat.zero_add] at this; omega
              have hqv : q.2.length ≤ 10000 * k := by
                have := lines_vals _ _ _ 0 10000 hst.out (by simp) (fun l hl => HX.out l (List.mem_of_mem_take hl)) q (by simp)
                rw [List.length_take, Nat.zero_add] at this
                exact Nat.le_trans this (Nat.mul_le_mul (Nat.le_refl _) (Nat.min_le_left _ _))
              obtain ⟨m, hm0⟩ : ∃ m, F0.length = m := ⟨_, rfl⟩
              have hlen1 : (F0 ++ [q]).length = m + 1 := by rw [List.length_append, hm0]; rfl
              rw [hlen1, fldCells_snoc] at hown
              rw [hlen1] at hFl
              obtain ⟨gf, cap, rfl, hg0, hglt, hcap⟩ : ∃ gf cap, u8 = .slice (some ⟨gf, 0, none⟩) (m + 1) cap ∧ w1.heap.size ≤ gf ∧ gf < wr.heap.size ∧ m + 1 ≤ cap := by
                rcases row_form hown with ⟨_, h⟩ | ⟨gf, cap, h⟩
                · omega
                · exact ⟨gf, cap, h⟩
              have hcf := hown.cellAt (m * 2 + 1) (by omega)
              rw [List.getElem?_append_right (by rw [fldCells_len]; omega), fldCells_len, hm0, show m * 2 + 1 - m * 2 = 1 by omega] at hcf
              have hcf' : wr.cell? ⟨gf, m * 2 + 1, none⟩ = some (.string ⟨q.2.toArray⟩) := hcf
              have hff := hown.frozenAt (m * 2 + 1)
              have hqs : (ByteArray.mk q.2.toArray).size ≤ 200000000 := by show q.2.length ≤ _; omega
              have hstep := step_blank (st := (F0 ++ [q], L)) HSH.out HH.out rfl
              have hnext : linesL (ls.take (k + 1)) ([], false) = some (F0 ++ [(q.1, q.2 ++ p.data.toList)], L || decide (998 < p.data.toList.length)) := by rw [lines_step ls k _ _ HKL.out hst.out, ← HPL.out]; exact hstep
              have HNX := Lib.hid hnext; have HOWN := Lib.hid hown; have HM := Lib.hid hm0
              have hk0' : ((k : Int) == 0) = false := by rw [beq_eq_false_iff_ne]; omega
              have hml : m ≤ 10000 := by omega
              clear hFne hlen1 hcf hown hstep hnext hm0 hk0
              have hclq := fun d os => cell_regrown hcell d os
              have hcgq := fun d os => cell_regrown hcf' d os
              have hmi : (m : Int) < (m : Int) + 1 := by omega
              rcases HLL.out with rfl | ⟨rfl, hll⟩ | ⟨rfl, hll⟩
              all_goals
                go_wp2_with (first | (go_at_call 26; refine (right_of p true HSH.out _ hpm).mono ?_; rintro e w2 ⟨rfl, rfl⟩) | (go_at_call 27; refine (blankr_of _ true HBL.out _).mono ?_; rintro e w2 ⟨rfl, rfl⟩))
                (refine region_quiet_tail_below 12 (by kernel_rfl) (by kernel_rfl) ?_; simp only [List.take_succ_cons, List.take_zero]; (repeat (first | go_big_quiet_skip | (go_big_quiet_want; go_big_quiet_op; first | go_big_quiet_on | (apply Exists.intro; refine ⟨fun _ => ?_, ?_⟩; (· (fail)); go_big_quiet_on)))); refine wpQuiet_nil ?_; intro wq hbq; simp only [List.drop_succ_cons, List.drop_zero])
                have hcf5 := (hbq.cell (p := ⟨gf, m * 2 + 1, none⟩) hglt).trans hcf'
                have hff5 := (hbq.frozen (p := ⟨gf, m * 2 + 1, none⟩) hglt).trans hff
                have HRO := Lib.hid (row_more (p := p) (own_below HOWN.out hbq) HM.out)
                have HBE := Lib.hid ((hbel.trans (hbq.mono hbel.size)).setCell (p := ⟨gf, m * 2 + 1, none⟩) hg0 (.string (⟨q.2.toArray⟩ ++ p)))
                clear hclq hcgq hcell hcf' hff
                go_wp2
                go_roundw
                case rel => exact ⟨k + 1, _, _, by go_num, by omega, long_or _ p _ (by first | rfl | simp [*]), HRO.out, HBE.out, HNX⟩
                case measure => simp [intOf]; omega
      · obtain rfl : k = n0 := by omega
        have hall : linesL ls ([], false) = some (F, L) := by
          have := hst.out; rw [HN0.out, List.take_length] at this; exact this
        have hFl : F.length ≤ 10000 := by
          have := lines_len _ _ _ hall
          simp only [List.length_nil, Nat.zero_add] at this; omega
        have hFv : ∀ q ∈ F, q.2.length ≤ 100000000 := by
          intro q hq
          have := lines_vals _ _ _ 0 10000 hall (by simp) (fun l hl => HX.out l hl) q hq
          rw [Nat.zero_add] at this
          exact Nat.le_trans this (Nat.mul_le_mul (Nat.le_refl _) hln)
        have hVV := HV.out
        rw [hall] at hVV
        have HFV := Lib.hid hFv
        clear hall hFv
        rcases L with _ | _
        · replace hVV : V = .ok (F.map fun p => (p.1, trimB p.2)) at_ := hVV
          subst hVV
          obtain ⟨n, hn⟩ : ∃ n, F.length = n := ⟨_, rfl⟩
          rw [hn] at hown hFl
          have HN := Lib.hid hn; clear hn
          obtain ⟨a1, cap1, rfl, ha1⟩ : ∃ a1 cap1, u8 = .slice a1 n cap1 ∧ (n = 0 ∨ ∃ g, a1 = some ⟨g, 0, none⟩ ∧ w1.heap.size ≤ g ∧ g < wr.heap.size ∧ n ≤ cap1) := by
            rcases row_form hown with ⟨h, h0⟩ | ⟨g, cap, h, h1, h2, h3⟩
            · exact ⟨none, 0, by rw [h, h0], .inl h0⟩
            · exact ⟨_, _, h, .inr ⟨g, rfl, h1, h2, h3⟩⟩
          have HA := Lib.hid ha1; clear ha1
          go_wp2
          go_loopw [13] (fun i w4 => ∃ j : Nat, i = .int .i64 j ∧ j ≤ n ∧ Hid (w4.ownsRow w1.heap.size 45 2 (.slice a1 n cap1) n (fldCells (trimK F j))) ∧ Hid (Below w1.heap.size w1 w4))
            (fun i _ => n - (intOf i).toNat)
          case atStart => exact ⟨0, rfl, Nat.zero_le _, Lib.hid (by simpa [trimK] using hown), Lib.hid hbel⟩
          case round =>
            rename_i i4 w4
            clear hown hbel hbelw
            obtain ⟨j, rfl, hj, HROW, HB⟩ := hrel
            by_cases hlt2 : j < n
            · obtain ⟨g, rfl, hg0, _, hcap⟩ := HA.out.resolve_left (by omega)
              have hjF : j < F.length := by rw [HN.out]; exact hlt2
              obtain ⟨q, hq⟩ : ∃ q, F[j] = q := ⟨_, rfl⟩
              obtain ⟨ht1, ht2, ht3⟩ := trimmed_step F j hjF q hq
              have hcell := HROW.out.cellAt (j * 2 + 1) (by omega)
              rw [ht2] at hcell
              have hfro := HROW.out.frozenAt (j * 2 + 1)
              have hqs : (ByteArray.mk q.2.toArray).size ≤ 1000000000 := by
                have := HFV.out q (by rw [← hq]; exact List.getElem_mem _)
                show q.2.length ≤ _; omega
              have hji : (j : Int) < (n : Int) := by omega
              have hR := (HROW.out.stored (j * 2 + 1) (.string ⟨(trimB q.2).toArray⟩)).1
              rw [ht3] at hR
              have HRO := Lib.hid hR
              have HBE := Lib.hid (HB.out.setCell (p := ⟨g, j * 2 + 1, none⟩) hg0 (.string ⟨(trimB q.2).toArray⟩))
              clear ht1 ht2 ht3 hR
              go_wp2_with (go_at_call 29; refine (trim_ref _ _ hqs).mono ?_; rintro e w5 ⟨rfl, rfl⟩)
              go_roundw
              case rel => exact ⟨j + 1, by go_num, by omega, HRO, HBE⟩
              case measure => simp [intOf]; omega
            · obtain rfl : j = n := by omega
              go_wp2
              go_ret3
              refine ⟨_, rfl, ?_, hb1.trans (HB.out.mono hbs)⟩
              have h := own_down HROW.out hbs
              unfold trimK at h
              rw [List.take_of_length_le (by rw [HN.out]; exact Nat.le_refl _), List.drop_of_length_le (by rw [HN.out]; exact Nat.le_refl _), List.append_nil] at h
              rw [List.length_map, HN.out]; exact h
        · replace hVV : V = .long := hVV
          subst hVV
          go_wp2
          go_ret3
          exact ⟨rfl, hbelw⟩
end Go.Proofs.YtdfflbpifpoogaaDoor
