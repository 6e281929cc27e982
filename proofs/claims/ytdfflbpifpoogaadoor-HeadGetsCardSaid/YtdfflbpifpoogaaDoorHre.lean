/- nuncioref13.end, lines, blank: a head's lines by the reference. -/
import Derived.Test.YtdfflbpifpoogaaDoorHsp
set_option linter.unusedVariables false
set_option synthInstance.maxSize 4000
namespace Nun
open Go Go.RowKit
def strCells (l : List (List UInt8)) : List Value := l.map fun x => .string ⟨x.toArray⟩
theorem strCells_snoc (l : List (List UInt8)) (x : List UInt8) : strCells (l ++ [x]) = strCells l ++ [.string ⟨x.toArray⟩] := by simp [strCells]
theorem strCells_len (l : List (List UInt8)) : (strCells l).length = l.length := by simp [strCells]
theorem beg_crlf (s : List UInt8) (i : Nat) : begL s [13, 10] i = true ↔ s[i]? = some 13 ∧ s[i + 1]? = some 10 := by
  unfold begL
  rw [Bool.and_eq_true, decide_eq_true_eq, beq_iff_eq, ← List.head?_drop, show s[i + 1]? = (s.drop i)[1]? by rw [List.getElem?_drop]]
  have hl : (s.drop i).length = s.length - i := List.length_drop
  match h : s.drop i with
  | [] => simp
  | [a] => simp
  | a :: b :: r => rw [h] at hl; simp at hl; simp; intro _ _; omega
def endV (k : Nat) : Option Nat → Int | some j => ((k + j : Nat) : Int) | none => -1
def linesR : List (List UInt8 × Nat) → Option (List (List UInt8) × Nat)
  | [] => none
  | (ln, a) :: r => if ln = [] then some ([], a) else (linesR r).map fun p => (ln :: p.1, p.2)
theorem runHead_none : ∀ (xs : List (List UInt8 × Nat)) (st : List Fld × Bool), linesR xs = none → runHead xs st = none
  | [], st, _ => rfl
  | (ln, a) :: r, st, h => by
    rw [linesR] at h
    by_cases hl : ln = []
    · rw [if_pos hl] at h; cases h
    · rw [if_neg hl] at h
      have hr : linesR r = none := by simpa using h
      rw [runHead, if_neg hl]
      rcases lineStep st ln with _ | st'
      · rfl
      · exact runHead_none r st' hr
theorem runHead_some : ∀ (xs : List (List UInt8 × Nat)) (st : List Fld × Bool) (ls : List (List UInt8)) (a : Nat), linesR xs = some (ls, a) → runHead xs st = (linesL ls st).map fun s => (s.1, s.2, a)
  | [], st, ls, a, h => by cases h
  | (ln, b) :: r, st, ls, a, h => by
    rw [linesR] at h
    by_cases hl : ln = []
    · rw [if_pos hl] at h; cases h; rw [runHead, if_pos hl]; rfl
    · rw [if_neg hl] at h
      rcases hr : linesR r with _ | ⟨ls', a'⟩
      · rw [hr] at h; cases h
      · rw [hr] at h
        cases h
        rw [runHead, if_neg hl, linesL, List.foldlM_cons]
        rcases hs : lineStep st ln with _ | st'
        · rfl
        · exact runHead_some r st' ls' a' hr
theorem linesR_ne : ∀ (xs : List (List UInt8 × Nat)) (ls : List (List UInt8)) (a : Nat), linesR xs = some (ls, a) → ∀ x ∈ ls, x ≠ []
  | [], ls, a, h => by cases h
  | (ln, b) :: r, ls, a, h => by
    rw [linesR] at h
    by_cases hl : ln = []
    · rw [if_pos hl] at h; cases h; simp
    · rw [if_neg hl] at h
      rcases hr : linesR r with _ | ⟨ls', a'⟩
      · rw [hr] at h; cases h
      · rw [hr] at h
        cases h
        intro x hx
        rcases List.mem_cons.1 hx with rfl | hx
        · exact hl
        · exact linesR_ne r ls' _ hr x hx
theorem linesR_len : ∀ (xs : List (List UInt8 × Nat)) (ls : List (List UInt8)) (a : Nat), linesR xs = some (ls, a) → ls.length ≤ xs.length ∧ ∀ x ∈ ls, ∃ b, (x, b) ∈ xs
  | [], ls, a, h => by cases h
  | (ln, b) :: r, ls, a, h => by
    rw [linesR] at h
    by_cases hl : ln = []
    · rw [if_pos hl] at h; cases h; simp
    · rw [if_neg hl] at h
      rcases hr : linesR r with _ | ⟨ls', a'⟩
      · rw [hr] at h; cases h
      · rw [hr] at h
        cases h
        have := linesR_len r ls' _ hr
        refine ⟨by simp; exact this.1, fun x hx => ?_⟩
        rcases List.mem_cons.1 hx with rfl | hx
        · exact ⟨b, by simp⟩
        · obtain ⟨c, hc⟩ := this.2 x hx; exact ⟨c, by simp [hc]⟩
end Nun
namespace Go.Proofs.YtdfflbpifpoogaaDoor
open Go Go.RowKit Nun
theorem begins_of (s x : ByteArray) (k : Nat) (b : Bool) (h : begL s.data.toList x.data.toList k = b) (w : World) (hs : s.size ≤ 1000000000) (hx : x.size ≤ 1000000000) (hk : k ≤ 1000000000) : Calls Tryd.prog 39 #[.string s, .string x, .int .i64 k] w (Same (.bool b) w) := h ▸ begins_ref s x k w hs hx hk
set_option maxHeartbeats 1000000 in
theorem end_ref (s : ByteArray) (k : Nat) (w : World) (hs : s.size ≤ 1000000) (hk : k ≤ s.size) (o : Option Nat) (ho : crAt (s.data.toList.drop k) = o) : Calls Tryd.prog 45 #[.string s, .int .i64 k] w (Same (.int .i64 (endV k o)) w) := by
  have hat : ∀ d, k + d ≤ s.size → begL s.data.toList [13, 10] (k + d) = decide (o = some d) ∨ ∃ e, o = some e ∧ e < d := by
    intro d hd
    by_cases hod : o = some d
    · left
      rw [hod] at ho
      have := crAt_some ho
      rw [List.getElem?_drop, List.getElem?_drop] at this
      rw [(beg_crlf _ _).2 this]; simp [hod]
    · by_cases hlt : ∃ e, o = some e ∧ e < d
      · exact .inr hlt
      · left
        rw [show decide (o = some d) = false by simpa using hod]
        have hn : ¬ (begL s.data.toList [13, 10] (k + d) = true) := by
          rw [beg_crlf]
          intro h
          rw [← List.getElem?_drop, show k + d + 1 = k + (d + 1) by omega, ← List.getElem?_drop] at h
          rcases o with _ | e
          · exact crAt_none ho d h
          · have hne : e ≠ d := fun e' => hod (by rw [e'])
            by_cases hed : e < d
            · exact hlt ⟨e, rfl, hed⟩
            · exact crAt_first ho d (by omega) h
        simpa using hn
  have hbd : ∀ e, o = some e → k + e + 2 ≤ s.size := by
    intro e h
    rw [h] at ho
    have := crAt_lt ho
    rw [List.length_drop, show s.data.toList.length = s.size from rfl] at this; omega
  have HA := Lib.hid hat; clear hat ho
  obtain ⟨V, hV⟩ : ∃ V, endV k o = V := ⟨_, rfl⟩
  rw [hV]
  have HV := Lib.hid hV; have HBD := Lib.hid hbd; clear hV hbd
  go_enter Tryd.func45, Tryd.ntmps45
  go_wp2
  go_loop [5] (fun i => ∃ d : Nat, i = .int .i64 ((k + d : Nat) : Int) ∧ k + d ≤ s.size ∧ Hid (¬ ∃ e, o = some e ∧ e < d)) (fun i => s.size - (intOf i).toNat)
  case atStart => exact ⟨0, rfl, by omega, Lib.hid (by rintro ⟨e, _, h⟩; omega)⟩
  case round =>
    obtain ⟨d, rfl, hd, hno⟩ := hrel
    have hcast : ((k + d : Nat) : Int) = (k : Int) + d := by omega
    by_cases hlt : k + d < s.size
    · have hb := (HA.out d (by omega)).resolve_right hno.out
      obtain ⟨i, hi⟩ : ∃ i, k + d = i := ⟨_, rfl⟩
      rw [hi] at hb hd hlt
      by_cases hod : o = some d
      · have HB := Lib.hid (show begL s.data.toList (ByteArray.mk #[13, 10]).data.toList i = true by rw [hb]; simp [hod])
        have HR := Lib.hid (show (i : Int) = V by rw [← HV.out, hod, ← hi]; rfl)
        have HI := Lib.hid hi
        rw [hi]
        clear hb hcast hod hi
        go_wp2_with (go_at_call 39; refine (begins_of s ⟨#[13, 10]⟩ i true HB.out _ (by omega) (by decide) (by omega)).mono ?_; rintro e w1 ⟨rfl, rfl⟩)
        go_ret
        exact ⟨r1 (vi HR.out), rfl⟩
      · have HB := Lib.hid (show begL s.data.toList (ByteArray.mk #[13, 10]).data.toList i = false by rw [hb]; simp [hod])
        have HN := Lib.hid (show ¬ ∃ e, o = some e ∧ e < d + 1 by
          rintro ⟨e, he, hed⟩
          exact hno.out ⟨e, he, by
            have : e ≠ d := fun h => hod (by rw [he, h])
            omega⟩)
        have HI := Lib.hid hi
        rw [hi]
        clear hb hcast hod hi
        go_wp2_with (go_at_call 39; refine (begins_of s ⟨#[13, 10]⟩ i false HB.out _ (by omega) (by decide) (by omega)).mono ?_; rintro e w1 ⟨rfl, rfl⟩)
        go_round
        case rel => exact ⟨d + 1, by rw [show k + (d + 1) = i + 1 by have := HI.out; omega]; go_num, by have := HI.out; omega, HN⟩
        case measure => simp [intOf]; omega
    · have hnone : o = none := by
        rcases o with _ | e
        · rfl
        · have h1 := HBD.out e rfl
          have h2 : ¬ e < d := fun h => hno.out ⟨e, rfl, h⟩
          omega
      have HR := Lib.hid (show (-1 : Int) = V by rw [← HV.out, hnone]; rfl)
      have hlt2 : ¬ ((k : Int) + d < s.size) := by omega
      clear hnone
      go_wp2
      go_ret
      exact ⟨r1 (vi HR.out), rfl⟩
theorem blank_ref13 (c : UInt8) (w : World) : Calls Tryd.prog 27 #[.int .u8 c.toNat] w (Same (.bool (blankC c)) w) := by
  go_enter Tryd.func27, Tryd.ntmps27
  go_wp2
  all_goals (go_ret; refine ⟨r1 (vb ?_), rfl⟩)
  all_goals (go_light; revert c; decide +kernel)
def linesV : Option (List (List UInt8) × Nat) → World → Ending → World → Prop
  | none, w, e, w' => e = .returned (.tuple #[.slice none 0 0, .int .i64 0, .bool false]) ∧ Below w.heap.size w w'
  | some (ls, a), w, e, w' => ∃ v, e = .returned (.tuple #[v, .int .i64 a, .bool true]) ∧ w'.ownsRow w.heap.size 9 1 v ls.length (strCells ls) ∧ Below w.heap.size w w'
theorem infoString : (Tryd.prog.info? 9).map (fun i => (i.zero, i.size, i.bytes)) = some (some (.string ⟨#[]⟩), 1, 16) := by kernel_rfl
theorem endr_of (s : ByteArray) (k : Nat) (V : Int) (o : Option Nat) (ho : crAt (s.data.toList.drop k) = o) (hV : endV k o = V) (w : World) (hs : s.size ≤ 1000000) (hk : k ≤ s.size) : Calls Tryd.prog 45 #[.string s, .int .i64 k] w (Same (.int .i64 V) w) := hV ▸ end_ref s k w hs hk o ho
set_option maxHeartbeats 2000000 in
theorem lines_ref (s : ByteArray) (w : World) (hs : s.size ≤ 1000000) (R : Option (List (List UInt8) × Nat)) (hR : linesR (itL s.data.toList 0) = R) : Calls Tryd.prog 25 #[.string s] w (linesV R w) := by
  have HRR := Lib.hid hR; clear hR
  go_enter Tryd.func25, Tryd.ntmps25
  go_wp2
  go_loopw [5, 6, 7] (fun v i _ wr => ∃ (k : Nat) (acc : List (List UInt8)), i = .int .i64 k ∧ k ≤ s.size ∧ acc.length ≤ k ∧ wr.ownsRow w.heap.size 9 1 v acc.length (strCells acc) ∧ Below w.heap.size w wr ∧ Hid (R = (linesR (itL (s.data.toList.drop k) k)).map fun p => (acc ++ p.1, p.2)))
    (fun _ i _ _ => s.size + 1 - (intOf i).toNat)
  case atStart => exact ⟨0, [], rfl, Nat.zero_le _, Nat.le_refl _, World.ownsRow_made (size := 1) w _ 0 (Nat.le_refl _) (by decide) (by decide), (Below.refl _ _).alloc (Nat.le_refl _) _, Lib.hid (by rw [List.drop_zero, HRR.out]; simp)⟩
  case round =>
    obtain ⟨k, acc, rfl, hk, hal, hown, hbel, hacc⟩ := hrel
    rcases ho : crAt (s.data.toList.drop k) with _ | j
    · have HV := Lib.hid (show endV k none = -1 from rfl)
      have HO := Lib.hid ho
      have hfin : R = none := by rw [hacc.out, itL_none ho]; rfl
      have HF := Lib.hid hfin
      clear ho hfin
      go_wp2_with (go_at_call 45; refine (endr_of s k (-1) none HO.out HV.out _ (by omega) hk).mono ?_; rintro e w1 ⟨rfl, rfl⟩)
      go_ret3
      rw [HF.out]
      exact ⟨rfl, hbel⟩
    · have hlt := crAt_lt ho
      rw [List.length_drop, show s.data.toList.length = s.size from rfl] at hlt
      have hit := itL_some (a := k) ho
      rw [List.drop_drop] at hit
      have HO := Lib.hid ho; have HIT := Lib.hid hit; clear ho hit
      obtain ⟨to, hto⟩ : ∃ to, k + j = to := ⟨_, rfl⟩
      have HV := Lib.hid (show endV k (some j) = (to : Int) by rw [← hto]; rfl)
      by_cases hj : j = 0
      · have hfin : R = some (acc, k + 2) := by
          rw [hacc.out, HIT.out, hj]; simp [linesR]
        have HF := Lib.hid hfin
        obtain rfl : k = to := by omega
        clear hj hto hfin
        go_wp2_with (go_at_call 45; refine (endr_of s k k (some j) HO.out HV.out _ (by omega) hk).mono ?_; rintro e w1 ⟨rfl, rfl⟩)
        go_ret3
        rw [HF.out]
        exact ⟨_, rfl, hown, hbel⟩
      · have hne : ((to : Int) == (k : Int)) = false := by rw [beq_eq_false_iff_ne]; omega
        have hsl : (s.extract k to).data.toList = (s.data.toList.drop k).take j := by rw [Lib.extract_data, show to - k = j by omega]
        have hfin : R = (linesR (itL (s.data.toList.drop (to + 2)) (to + 2))).map fun p => (acc ++ [(s.extract k to).data.toList] ++ p.1, p.2) := by
          have hn0 : (s.data.toList.drop k).take j ≠ [] := by
            intro h
            have := congrArg List.length h
            rw [List.length_take, List.length_drop, show s.data.toList.length = s.size from rfl] at this
            simp at this; omega
          rw [hacc.out, HIT.out, linesR, if_neg hn0, if_neg hj, hsl, show k + (j + 2) = to + 2 by omega, show k + j + 2 = to + 2 by omega]
          rcases linesR (itL (s.data.toList.drop (to + 2)) (to + 2)) with _ | p <;> simp
        have HF := Lib.hid hfin
        have hle1 : (k : Int) ≤ (to : Int) := by omega
        have hle2 : (to : Int) + 2 ≤ (s.size : Int) := by omega
        have hnn : (0 : Int) ≤ to := by omega
        have hkto : k < to := by omega
        have HTO := Lib.hid hto
        obtain ⟨x, hx⟩ : ∃ x, s.extract k to = x := ⟨_, rfl⟩
        rw [hx] at HF
        have hxs : x.size ≤ 1000000 := by rw [← hx, ByteArray.size_extract]; omega
        clear hj hto hfin hsl
        go_wp2_with (first | (go_at_call 45; refine (endr_of s k to (some j) HO.out HV.out _ (by omega) hk).mono ?_; rintro e w1 ⟨rfl, rfl⟩) | (at_builtin; refine push1 (by rfl) _ _ _ (by rfl) 9 (.string ⟨#[]⟩) 1 16 Tryd.underlying56 infoString rfl (by decide) w.heap.size wr _ _ _ (by rfl) hown [.string x] rfl (by simp [Value.oneCell']) (by rfl) (by omega) (by omega) hbel.size ?_; intro g cap w1 hg hown1 hgr hb1 hsz1))
        go_roundw
        case rel =>
          exact ⟨to + 2, acc ++ [x.data.toList], by go_num, by omega, by simp; omega, by rw [strCells_snoc, List.length_append]; exact hown1, hbel.trans hb1, HF⟩
        case measure => simp [intOf]; omega
end Go.Proofs.YtdfflbpifpoogaaDoor
