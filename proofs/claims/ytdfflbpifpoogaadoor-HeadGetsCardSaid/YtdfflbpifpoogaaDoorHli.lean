/- head.lines: the iterator over a head's lines keeps its contract. -/
import Derived.Test.YtdfflbpifpoogaaDoorOcg
import Derived.Test.YtdfflbpifpoogaaDoorSco
set_option linter.unusedVariables false
namespace Nun
open Go Go.RowKit
abbrev LineAt := { p : ByteArray × Nat // p.1.size ≤ 10000 ∧ p.2 ≤ 20000 }
def LineAt.pair (p : LineAt) : List UInt8 × Nat := (p.1.1.data.toList, p.1.2)
/-- Two blocks are kept. -/
def KeepsTwo (b c : Nat) (W W' : World) : Prop := KeepsAt b W W' ∧ KeepsAt c W W'
theorem keepsTwo_t {b c : Nat} {A B C : World} (h : KeepsTwo b c A B) (k : KeepsTwo b c B C) : KeepsTwo b c A C := ⟨keepsAt_t h.1 k.1, keepsAt_t h.2 k.2⟩
theorem keepsTwo_b {b c : Nat} {w : World} (hb : b < w.heap.size) (hc : c < w.heap.size) (W : World) (l : Nat) (o o' : Obj) (hl : w.heap.size ≤ l) (h : W.heap[l]? = some o) (h1 : o.isCells = false) (h2 : o.isWalk = false) : KeepsTwo b c W (W.putObj l o') :=
  ⟨keepsAt_b hb W l o o' hl h h1 h2, keepsAt_b hc W l o o' hl h h1 h2⟩
theorem keepsTwo_below {b c : Nat} {W W' : World} (hb : b < W.heap.size) (hc : c < W.heap.size) (k : Below W.heap.size W W') : KeepsTwo b c W W' := ⟨keepsAt_below hb k, keepsAt_below hc k⟩
/-- The library's bound for short searches holds some number. -/
def MaxIs (W : World) : Prop := ∃ m, W.cell? ⟨0, 0, none⟩ = some (.int .i64 m)
theorem MaxIs.kept {W W' : World} (h : MaxIs W) (k : KeepsAt 0 W W') : MaxIs W' := by
  obtain ⟨m, hm⟩ := h
  exact ⟨m, by unfold World.cell? at hm ⊢; rw [k]; exact hm⟩
theorem MaxIs.lt {W : World} (h : MaxIs W) : 0 < W.heap.size := by
  obtain ⟨m, hm⟩ := h
  exact World.block_lt_of_cell? W _ hm
theorem MaxIs.below {W W' : World} (h : MaxIs W) (k : Below W.heap.size W W') : MaxIs W' := h.kept (keepsAt_below h.lt k)
theorem MaxIs.below' {B : Nat} {W W' : World} (h : MaxIs W) (hB : 0 < B) (k : Below B W W') : MaxIs W' := h.kept (k.block _ hB)
/-- What a text that is cut gives: where it is cut. -/
def CutYes (s : ByteArray) (k d : Nat) (w : World) (e : Ending) (w' : World) : Prop := ∃ a b : ByteArray, e = .returned (.tuple #[.string a, .string b, .bool true]) ∧ a.size = k ∧ b.size + (k + d) = s.size ∧ Hid (a.data.toList = s.data.toList.take k) ∧ Hid (b.data.toList = s.data.toList.drop (k + d)) ∧ Below w.heap.size w w'
def CutNo (s : ByteArray) (w : World) (e : Ending) (w' : World) : Prop := e = .returned (.tuple #[.string s, .string ⟨#[]⟩, .bool false]) ∧ Below w.heap.size w w'
end Nun
namespace Go.Proofs.YtdfflbpifpoogaaDoor
open Go Go.RowKit Nun
theorem cut_line_no (s : ByteArray) (w : World) (hm : MaxIs w) (hs : s.size ≤ 1000000) (ho : crAt s.data.toList = none) : Calls Tryd.prog 22 #[.string s, .string ⟨#[13, 10]⟩] w (CutNo s w) := by
  obtain ⟨m, hm⟩ := hm
  refine (Tryd.strings_Cut s ⟨#[13, 10]⟩ m w (by omega) hm).mono ?_
  rintro e w' ⟨rfl, n, rfl⟩
  refine ⟨?_, below_drewN' w n⟩
  rw [show (ByteArray.mk #[13, 10]).data.toList = [13, 10] from rfl, cut_crlf, ho]
theorem cut_line_yes (s : ByteArray) (w : World) (hm : MaxIs w) (hs : s.size ≤ 1000000) (k : Nat) (ho : crAt s.data.toList = some k) : Calls Tryd.prog 22 #[.string s, .string ⟨#[13, 10]⟩] w (CutYes s k 2 w) := by
  obtain ⟨m, hm⟩ := hm
  refine (Tryd.strings_Cut s ⟨#[13, 10]⟩ m w (by omega) hm).mono ?_
  rintro e w' ⟨rfl, n, rfl⟩
  have hl := crAt_lt ho
  rw [show s.data.toList.length = s.size from rfl] at hl
  refine ⟨⟨(s.data.toList.take k).toArray⟩, ⟨(s.data.toList.drop (k + 2)).toArray⟩, ?_, ?_, ?_, Lib.hid rfl, Lib.hid rfl, below_drewN' w n⟩
  · rw [show (ByteArray.mk #[13, 10]).data.toList = [13, 10] from rfl, cut_crlf, ho]
  · rw [mk_size, List.length_take, show s.data.toList.length = s.size from rfl]; omega
  · rw [mk_size, List.length_drop, show s.data.toList.length = s.size from rfl]; omega
theorem cut_byte_no (c : UInt8) (s : ByteArray) (w : World) (hm : MaxIs w) (hs : s.size ≤ 1000000) (ho : byteAt c s.data.toList = none) : Calls Tryd.prog 22 #[.string s, .string ⟨#[c]⟩] w (CutNo s w) := by
  obtain ⟨m, hm⟩ := hm
  refine (Tryd.strings_Cut s ⟨#[c]⟩ m w (by omega) hm).mono ?_
  rintro e w' ⟨rfl, n, rfl⟩
  refine ⟨?_, below_drewN' w n⟩
  rw [show (ByteArray.mk #[c]).data.toList = [c] from rfl, cut_byte, ho]
theorem cut_byte_yes (c : UInt8) (s : ByteArray) (w : World) (hm : MaxIs w) (hs : s.size ≤ 1000000) (k : Nat) (ho : byteAt c s.data.toList = some k) : Calls Tryd.prog 22 #[.string s, .string ⟨#[c]⟩] w (CutYes s k 1 w) := by
  obtain ⟨m, hm⟩ := hm
  refine (Tryd.strings_Cut s ⟨#[c]⟩ m w (by omega) hm).mono ?_
  rintro e w' ⟨rfl, n, rfl⟩
  have hl := byteAt_lt ho
  rw [show s.data.toList.length = s.size from rfl] at hl
  refine ⟨⟨(s.data.toList.take k).toArray⟩, ⟨(s.data.toList.drop (k + 1)).toArray⟩, ?_, ?_, ?_, Lib.hid rfl, Lib.hid rfl, below_drewN' w n⟩
  · rw [show (ByteArray.mk #[c]).data.toList = [c] from rfl, cut_byte, ho]
  · rw [mk_size, List.length_take, show s.data.toList.length = s.size from rfl]; omega
  · rw [mk_size, List.length_drop, show s.data.toList.length = s.size from rfl]; omega
attribute [local go_sem] Oper.semAt_some
set_option maxHeartbeats 2000000 in
set_option maxRecDepth 100000 in
theorem lines_stops (n : Nat) (hn : 1 ≤ n) (s : ByteArray) (hs : s.size ≤ 10000) (Bn : Nat) (w : World) (hbox : Boxed w Bn 9 (.string s)) (hmax : MaxIs w) :
    SeqStopsK Fence.wide n Tryd.prog 42 #[.pointer (some ⟨Bn, 0, none⟩)] (fun p : LineAt => #[.string p.1.1, .int .i64 p.1.2]) (KeepsTwo Bn 0)
      (fun xs => xs.map LineAt.pair = itL s.data.toList 0) (fun xs => ∃ r, xs.map LineAt.pair ++ r = itL s.data.toList 0) (s.size + 1) w := fun l J Jx W hW hJ hJx hY h0 => by
  have hbx0 : Boxed W Bn 9 (.string s) := (hW.block _ hbox.lt).trans hbox
  have hm0 : MaxIs W := hmax.below hW
  have hc0 := hbx0.cell
  have HX := Lib.hid hbx0; clear hbx0
  refine callsIn_of_wp Tryd.func42 rfl trivial ?_ rfl
  simp only [Tryd.ntmps42, List.size_toArray, List.length_cons, List.length_nil, Nat.reduceAdd, Nat.reduceSub, Array.replicate_succ, Array.replicate_zero, List.push_toArray, List.append_toArray, List.nil_append, List.cons_append]
  gi_wp2
  gi_loopw [3, 4, 5, 6, 7] (fun v _ _ _ _ wr => ∃ (k : Nat) (pre : List LineAt), v = .int .i64 k ∧ k ≤ s.size ∧ pre.length ≤ k ∧ Hid (pre.map LineAt.pair ++ itL (s.data.toList.drop k) k = itL s.data.toList 0) ∧ Hid (J pre wr) ∧ Hid (Boxed wr Bn 9 (.string s)) ∧ Hid (MaxIs wr))
    (fun v _ _ _ _ _ => s.size + 1 - (intOf v).toNat)
  case atStart => exact ⟨0, [], rfl, Nat.zero_le _, Nat.le_refl _, Lib.hid rfl, Lib.hid h0, HX, Lib.hid hm0⟩
  case round =>
    obtain ⟨k, pre, rfl, hk, hpl, hpre, hJs, hbx, hmx⟩ := hrel
    replace hJs := hJs.out
    replace hbx := hbx.out
    have hc2 := hbx.cell
    have hbl := hbx.lt
    have hsx : (s.extract k s.size).data.toList = s.data.toList.drop k := by rw [Lib.extract_data, List.take_of_length_le (by rw [List.length_drop]; exact Nat.le_refl _)]
    have hsz : (s.extract k s.size).size = s.size - k := by rw [ByteArray.size_extract]; omega
    rcases ho : crAt (s.data.toList.drop k) with _ | j
    · have HO := Lib.hid (show crAt (s.extract k s.size).data.toList = none by rw [hsx]; exact ho)
      have HE := Lib.hid (show pre.map LineAt.pair = itL s.data.toList 0 by rw [← hpre.out, itL_none ho, List.append_nil])
      clear ho hsx
      gi_wp2_with (refine ⟨trivial, ?_⟩; gi_at_call 22; refine (callsIn_wide.2 (cut_line_no _ _ hmx.out (by omega) HO.out)).mono ?_; rintro e w1 ⟨rfl, hb1⟩)
      refine bodyPost_ret (results_none rfl _ _ _) rfl ?_
      exact ⟨⟨_, rfl⟩, .inl ⟨pre, HE.out, abides_below hJ hJs hb1⟩⟩
    · have hlt := crAt_lt ho
      rw [List.length_drop, show s.data.toList.length = s.size from rfl] at hlt
      have HO := Lib.hid (show crAt (s.extract k s.size).data.toList = some j by rw [hsx]; exact ho)
      have hit := itL_some (a := k) ho
      rw [List.drop_drop] at hit
      have HIT := Lib.hid hit
      have HSX := Lib.hid hsx
      clear ho hsx hit
      gi_wp2_with (refine ⟨trivial, ?_⟩; gi_at_call 22; refine (callsIn_wide.2 (cut_line_yes _ _ hmx.out (by omega) j HO.out)).mono ?_; rintro e w1 ⟨a, b, rfl, haj, hbs, hal, _, hb1⟩; have hJ1 := abides_below hJ hJs hb1; have hbx1 := (hb1.block _ hbl).trans hbx; have hmx1 := hmx.out.below hb1; have hc1 := Boxed.cell hbx1; have haL := Lib.hid haj; have ha1 : a.size + 2 ≤ s.size - k := (by omega); clear haj; obtain ⟨fn, tmps, assign, body, hy, hR⟩ := hY pre ⟨(a, k + (a.size + 2)), by constructor <;> dsimp only <;> omega⟩ w1 hJ1 (by omega); dsimp only at hy; rw [show ((k + (a.size + 2) : Nat) : Int) = (k : Int) + ((a.size : Int) + 2) by omega] at hy)
      have hpair : LineAt.pair ⟨(a, k + (a.size + 2)), by constructor <;> dsimp only <;> omega⟩ = ((s.data.toList.drop k).take j, k + j + 2) := by
        unfold LineAt.pair; dsimp only; rw [hal.out, HSX.out, haL.out, Nat.add_assoc]
      have HP := Lib.hid hpair; clear hpair
      refine hR.mono ?_
      rintro e W3 (⟨rfl, hJ3, hk3⟩ | ⟨rfl, hx3⟩)
      · have hbx3 : Boxed W3 Bn 9 (.string s) := Eq.trans hk3.1 hbx1
        have hmx3 := hmx1.kept hk3.2
        rcases Nat.eq_zero_or_pos j with hj | hj
        · have hae : a.toList = [] := by
            rw [Lib.toList_data]; exact List.eq_nil_of_length_eq_zero (haL.out.trans hj)
          have HF := Lib.hid (show (pre ++ [(⟨(a, k + (a.size + 2)), by constructor <;> dsimp only <;> omega⟩ : LineAt)]).map LineAt.pair = itL s.data.toList 0 by
            rw [List.map_append, List.map_singleton, HP.out, ← hpre.out, HIT.out, if_pos hj])
          gi_wp2
          refine bodyPost_ret (results_none rfl _ _ _) rfl ?_
          exact ⟨⟨_, rfl⟩, .inl ⟨_, HF.out, hJ3⟩⟩
        · have e1 : a.toList = [] ↔ False := by
            rw [Lib.toList_data]
            exact iff_of_false (fun h => by have := haL.out; have h2 : a.size = 0 := congrArg List.length h; omega) id
          have e2 : a.toList.isEmpty = false := by
            rw [Lib.toList_data]
            cases h : a.data.toList with
            | nil => have := haL.out; have h2 : a.size = 0 := congrArg List.length h; omega
            | cons _ _ => rfl
          have HF := Lib.hid (show (pre ++ [(⟨(a, k + (a.size + 2)), by constructor <;> dsimp only <;> omega⟩ : LineAt)]).map LineAt.pair ++ itL (s.data.toList.drop (k + (a.size + 2))) (k + (a.size + 2)) = itL s.data.toList 0 by
            rw [List.map_append, List.map_singleton, HP.out, ← hpre.out, HIT.out, if_neg (by omega), haL.out, List.append_assoc]; rfl)
          gi_wp2
          go_roundw
          case rel => exact ⟨k + (a.size + 2), _, by go_num, by omega, by simp; omega, HF, Lib.hid hJ3, Lib.hid hbx3, Lib.hid hmx3⟩
          case measure => simp [intOf]; omega
      · have HF := Lib.hid (show (pre ++ [(⟨(a, k + (a.size + 2)), by constructor <;> dsimp only <;> omega⟩ : LineAt)]).map LineAt.pair ++ (if j = 0 then [] else itL (s.data.toList.drop (k + (j + 2))) (k + j + 2)) = itL s.data.toList 0 by
            rw [List.map_append, List.map_singleton, HP.out, ← hpre.out, HIT.out, List.append_assoc]; rfl)
        gi_wp2
        refine bodyPost_ret (results_none rfl _ _ _) rfl ?_
        exact ⟨⟨_, rfl⟩, .inr ⟨_, ⟨_, HF.out⟩, hx3⟩⟩
end Go.Proofs.YtdfflbpifpoogaaDoor
