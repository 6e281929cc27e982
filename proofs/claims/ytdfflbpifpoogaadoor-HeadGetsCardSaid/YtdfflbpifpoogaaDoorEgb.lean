/- Law 13: Get, by the evaluator. -/
import Derived.Test.YtdfflbpifpoogaaDoorEga
import Derived.Test.YtdfflbpifpoogaaDoorHrb
set_option linter.unusedVariables false
set_option linter.unusedSimpArgs false
namespace Nun
open Go Go.RowKit
abbrev BF := ByteArray × ByteArray
def bcs (F : List BF) : List PV := F.flatMap fun f => [.flat (.string f.1), .flat (.string f.2)]
theorem bcs_cons (f : BF) (r : List BF) : bcs (f :: r) = .flat (.string f.1) :: .flat (.string f.2) :: bcs r := rfl
theorem bcs_snoc (r : List BF) (f : BF) : bcs (r ++ [f]) = bcs r ++ [.flat (.string f.1), .flat (.string f.2)] := by simp [bcs]
theorem bcs_len (F : List BF) : (bcs F).length = F.length * 2 := by
  induction F with
  | nil => rfl
  | cons f r ih => rw [bcs_cons]; simp only [List.length_cons, ih]; omega
theorem bcs_low (F : List BF) (n : Nat) : lows n (bcs F) = true := by
  induction F with
  | nil => rfl
  | cons f r ih => rw [bcs_cons]; simp [lows, PV.low, ih]
theorem bcs_noPtr (F : List BF) : noPtrs (bcs F) = true := by
  induction F with
  | nil => rfl
  | cons f r ih => rw [bcs_cons]; simp [noPtrs, PV.noPtr, ih]
theorem bcs_drop (F : List BF) (k : Nat) : (bcs F).drop (k * 2) = bcs (F.drop k) := by
  induction F generalizing k with
  | nil => simp [bcs]
  | cons f r ih =>
    cases k with
    | zero => simp
    | succ k => rw [bcs_cons, show (k + 1) * 2 = k * 2 + 2 by omega]; simpa using ih k
theorem bcs_take (F : List BF) (k : Nat) : (bcs F).take (k * 2) = bcs (F.take k) := by
  induction F generalizing k with
  | nil => simp [bcs]
  | cons f r ih =>
    cases k with
    | zero => simp [bcs]
    | succ k => rw [bcs_cons, show (k + 1) * 2 = k * 2 + 2 by omega]; simp [bcs_cons, ih k]
theorem wrap64 {n : Int} (h : -9223372036854775808 ≤ n ∧ n < 9223372036854775808) : IntKind.i64.wrap n = n := by
  unfold IntKind.wrap; simp [IntKind.bits, IntKind.signed]; omega
def fewB (s : ByteArray) : ByteArray := s.extract 0 (min s.size 400)
def alikeB (a b : ByteArray) : Bool := foldL a.data.toList == foldL b.data.toList
def getB (name : ByteArray) : List BF → ByteArray → Nat → ByteArray × Nat
  | [], v, n => (v, n)
  | f :: r, v, n => if alikeB f.1 name then getB name r (if n = 0 then f.2 else v) (n + 1) else getB name r v n
open Go.Proofs.YtdfflbpifpoogaaDoor
variable {lib : Callee}
def headG (F : List BF) (name v : ByteArray) (n i : Nat) : St := ⟨[(1, .flat (.string name)), (6, .flat (.string v)), (7, .flat (.int .i64 n)), (10, .slc F.length (bcs F)), (11, .flat (.int .i64 F.length)), (12, .flat (.int .i64 i))], [], [], []⟩
theorem few_ev (s : ByteArray) : evW code lib 8 [.flat (.string s)] [] [] = some ([.flat (.string (fewB s))], false, [], []) := by
  refine evW_run code_nunciolaw13_few (by simp [c_nunciolaw13_few]) ?_
  have h3 : (if (400 : Int) < s.size then (400 : Int) else s.size) = ((min s.size 400 : Nat) : Int) := by split <;> omega
  have h2 : min s.size 400 ≤ s.size := Nat.min_le_left _ _
  have h4 : (0 : Int) ≤ (min s.size 400 : Nat) := by omega
  have h5 : ((min s.size 400 : Nat) : Int) ≤ s.size := by omega
  simp [c_nunciolaw13_few, initSl, evC, evOps, evPre, stepG, stepP, guardOk, stepOp, simpleV, X.ev, look, flatBin, flatUn, St.putD, St.put, St.putOwn, dropSlot, dropAl, ment, loadV, PV.good, PV.cells, callSt, noPtrs, PV.noPtr, tupOf, St.only, trim, lows, PV.low, preDyn, fillP, origin, pvAt, mentC, sliceBnd, intOfPV, rn_some, h3, h2, h4, h5, resV, ownRes, cellsUpto, fewB]
theorem getB_step {F : List BF} {i : Nat} {f : BF} (hf : F[i]? = some f) (name v : ByteArray) (n : Nat) : getB name (F.drop i) v n = if alikeB f.1 name then getB name (F.drop (i + 1)) (if n = 0 then f.2 else v) (n + 1) else getB name (F.drop (i + 1)) v n := by
  have hi := (List.getElem?_eq_some_iff.1 hf).1
  rw [List.drop_eq_getElem_cons hi]
  have : F[i] = f := (List.getElem?_eq_some_iff.1 hf).2
  rw [this]; rfl
def Small (F : List BF) : Prop := F.length ≤ 1000 ∧ ∀ f ∈ F, f.1.size ≤ 1000000
def QG (r : ByteArray × Nat) (o : Out) (s : St) : Prop := o = .exit 0 ∧ look s.sl 6 = .flat (.string r.1) ∧ look s.sl 7 = .flat (.int .i64 r.2) ∧ s.ow = [] ∧ s.al = [] ∧ s.bx = []
theorem get_ev (F : List BF) (name : ByteArray) (hF : Small F) (ha : ∀ f ∈ F, evW code lib 36 [.flat (.string f.1), .flat (.string name)] [] [] = some ([.flat (.bool (alikeB f.1 name))], false, [], [])) :
    evW code lib 18 [.slc F.length (bcs F), .flat (.string name)] [] [] = some ([.flat (.string (getB name F ⟨#[]⟩ 0).1), .flat (.int .i64 (getB name F ⟨#[]⟩ 0).2)], false, [], []) := by
  refine evW_run code_head_Get (by simp [c_head_Get]) ?_
  have hloop := rn_loop (body := evC (evW code lib) big b_head_Get_0) (live := [1, 6, 7, 10, 11, 12]) (nb := 0) (fun a : ByteArray × Nat × Nat => headG F name a.1 a.2.1 a.2.2) (fun a => a.2.1 ≤ a.2.2 ∧ a.2.2 ≤ F.length) (fun a => F.length - a.2.2)
    (fun a => QG (getB name (F.drop a.2.2) a.1 a.2.1)) (fun ⟨v, n, i⟩ ⟨hn, hi⟩ => ?_)
  · have h0 := hloop big (⟨#[]⟩, 0, 0) { sl := [(12, .flat (.int .i64 0)), (11, .flat (.int .i64 F.length)), (10, .slc F.length (bcs F)), (7, .flat (.int .i64 0)), (6, .flat (.string ⟨#[]⟩)), (5, .flat (.int .i64 0)), (4, .flat (.string ⟨#[]⟩)), (0, .slc F.length (bcs F)), (1, .flat (.string name))], ow := [], al := [], bx := [] } (by simp [St.only, headG, trim, look]) ⟨Nat.le_refl _, Nat.zero_le _⟩ (by have := hF.1; unfold big; dsimp only; omega)
    obtain ⟨o, ⟨sl, ow, al, bx⟩, k1, rfl, k2, k3, k4, k5, k6⟩ := h0
    dsimp only at k1 k2 k3 k4 k5 k6
    subst k4; subst k5; subst k6
    simp [c_head_Get, initSl, evC, evOps, evPre, stepG, stepP, guardOk, stepOp, simpleV, X.ev, look, flatBin, flatUn, St.putD, St.put, St.putOwn, dropSlot, dropAl, ment, loadV, PV.good, PV.cells, callSt, noPtrs, PV.noPtr, tupOf, St.only, trim, lows, PV.low, preDyn, fillP, origin, pvAt, mentC, sliceBnd, intOfPV, k1, k2, k3, rn_some, resV, ownRes, cellsUpto]
  · dsimp only at hn hi
    have hl := hF.1
    by_cases hlt : i < F.length
    · obtain ⟨f, hf⟩ : ∃ f, F[i]? = some f := ⟨_, List.getElem?_eq_getElem hlt⟩
      have e1 : (i : Int) < F.length := by omega
      have e2 : (bcs F).drop (i * 2) = .flat (.string f.1) :: .flat (.string f.2) :: bcs (F.drop (i + 1)) := by
        rw [bcs_drop, List.drop_eq_getElem_cons hlt, bcs_cons, (List.getElem?_eq_some_iff.1 hf).2]
      have e3 : (0 : Int) ≤ i := by omega
      have e4 : IntKind.i64.wrap ((i : Int) + 1) = (i : Int) + 1 := wrap64 (by omega)
      have e5 : IntKind.i64.wrap ((n : Int) + 1) = (n : Int) + 1 := wrap64 (by omega)
      have e6 := ha f (List.mem_of_getElem? hf)
      have e7 := getB_step hf name
      have hlow := bcs_low F 0
      obtain ⟨b, hb⟩ : ∃ b, alikeB f.1 name = b := ⟨_, rfl⟩
      rw [hb] at e6
      simp only [hb] at e7
      cases b with
      | false =>
        simp [b_head_Get_0, headG, evC, evOps, evPre, stepG, stepP, guardOk, stepOp, simpleV, X.ev, look, flatBin, flatUn, St.putD, St.put, St.putOwn, dropSlot, dropAl, ment, loadV, PV.good, PV.cells, callSt, noPtrs, PV.noPtr, tupOf, St.only, trim, lows, PV.low, preDyn, fillP, origin, pvAt, mentC, sliceBnd, intOfPV, e1, e2, e3, e4, e6, hlow, rn_some]
        exact ⟨v, n, i + 1, ⟨rfl, rfl, rfl⟩, by omega, by omega, fun o s h => by rw [e7]; exact h⟩
      | true =>
        by_cases h0 : n = 0
        · subst h0
          simp [b_head_Get_0, headG, evC, evOps, evPre, stepG, stepP, guardOk, stepOp, simpleV, X.ev, look, flatBin, flatUn, St.putD, St.put, St.putOwn, dropSlot, dropAl, ment, loadV, PV.good, PV.cells, callSt, noPtrs, PV.noPtr, tupOf, St.only, trim, lows, PV.low, preDyn, fillP, origin, pvAt, mentC, sliceBnd, intOfPV, e1, e2, e3, e4, e6, hlow, rn_some, wrap64]
          exact ⟨f.2, 1, i + 1, ⟨rfl, rfl, rfl⟩, by omega, by omega, fun o s h => by rw [e7]; exact h⟩
        · have e9 : ((n : Int) == 0) = false := by simp; omega
          simp [b_head_Get_0, headG, evC, evOps, evPre, stepG, stepP, guardOk, stepOp, simpleV, X.ev, look, flatBin, flatUn, St.putD, St.put, St.putOwn, dropSlot, dropAl, ment, loadV, PV.good, PV.cells, callSt, noPtrs, PV.noPtr, tupOf, St.only, trim, lows, PV.low, preDyn, fillP, origin, pvAt, mentC, sliceBnd, intOfPV, e1, e2, e3, e4, e5, e6, e9, hlow, rn_some]
          exact ⟨v, n + 1, i + 1, ⟨rfl, rfl, rfl⟩, by omega, by omega, fun o s h => by rw [e7, if_pos rfl, if_neg h0]; exact h⟩
    · have hil : i = F.length := by omega
      subst hil
      simp [b_head_Get_0, headG, evC, evOps, evPre, stepG, stepP, guardOk, stepOp, simpleV, X.ev, look, flatBin, flatUn, St.putD, St.put, St.putOwn, dropSlot, dropAl, ment, loadV, PV.good, PV.cells, callSt, noPtrs, PV.noPtr, tupOf, St.only, trim, lows, PV.low, preDyn, fillP, origin, pvAt, mentC, sliceBnd, intOfPV, rn_some, getB, QG]
def headR (F : List BF) (name v : ByteArray) (n i : Nat) : St := ⟨[(0, .slc F.length (bcs F)), (1, .flat (.string name)), (6, .flat (.string v)), (7, .flat (.int .i64 n)), (8, .flat (.int .i64 i))], [], [], []⟩
def foldB (s : ByteArray) : ByteArray := ⟨(foldL s.data.toList).toArray⟩
theorem getr_ev (F : List BF) (name : ByteArray) (hF : Small F) (ha : ∀ s : ByteArray, s.size ≤ 1000000 → evW code lib 41 [.flat (.string s)] [] [] = some ([.flat (.string (foldB s))], false, [], [])) (hn : name.size ≤ 1000000) :
    evW code lib 19 [.slc F.length (bcs F), .flat (.string name)] [] [] = some ([.flat (.string (getB name F ⟨#[]⟩ 0).1), .flat (.int .i64 (getB name F ⟨#[]⟩ 0).2)], false, [], []) := by
  refine evW_run code_nuncioref13_Get (by simp [c_nuncioref13_Get]) ?_
  have hloop := rn_loop (body := evC (evW code lib) big b_nuncioref13_Get_0) (live := [0, 1, 6, 7, 8]) (nb := 0) (fun a : ByteArray × Nat × Nat => headR F name a.1 a.2.1 a.2.2) (fun a => a.2.1 ≤ a.2.2 ∧ a.2.2 ≤ F.length) (fun a => F.length - a.2.2)
    (fun a => QG (getB name (F.drop a.2.2) a.1 a.2.1)) (fun ⟨v, n, i⟩ ⟨hn, hi⟩ => ?_)
  · have h0 := hloop big (⟨#[]⟩, 0, 0) { sl := [(8, .flat (.int .i64 0)), (7, .flat (.int .i64 0)), (6, .flat (.string ⟨#[]⟩)), (5, .flat (.int .i64 0)), (4, .flat (.string ⟨#[]⟩)), (0, .slc F.length (bcs F)), (1, .flat (.string name))], ow := [], al := [], bx := [] } (by simp [St.only, headR, trim, look]) ⟨Nat.le_refl _, Nat.zero_le _⟩ (by have := hF.1; unfold big; dsimp only; omega)
    obtain ⟨o, ⟨sl, ow, al, bx⟩, k1, rfl, k2, k3, k4, k5, k6⟩ := h0
    dsimp only at k1 k2 k3 k4 k5 k6
    subst k4; subst k5; subst k6
    simp [c_nuncioref13_Get, initSl, evC, evOps, evPre, stepG, stepP, guardOk, stepOp, simpleV, X.ev, look, flatBin, flatUn, St.putD, St.put, St.putOwn, dropSlot, dropAl, ment, loadV, PV.good, PV.cells, callSt, noPtrs, PV.noPtr, tupOf, St.only, trim, lows, PV.low, preDyn, fillP, origin, pvAt, mentC, sliceBnd, intOfPV, k1, k2, k3, rn_some, resV, ownRes, cellsUpto]
  · dsimp only at hn hi
    have hl := hF.1
    by_cases hlt : i < F.length
    · obtain ⟨f, hf⟩ : ∃ f, F[i]? = some f := ⟨_, List.getElem?_eq_getElem hlt⟩
      have e1 : (i : Int) < F.length := by omega
      have e2 : (bcs F).drop (i * 2) = .flat (.string f.1) :: .flat (.string f.2) :: bcs (F.drop (i + 1)) := by
        rw [bcs_drop, List.drop_eq_getElem_cons hlt, bcs_cons, (List.getElem?_eq_some_iff.1 hf).2]
      have e3 : (0 : Int) ≤ i := by omega
      have e4 : IntKind.i64.wrap ((i : Int) + 1) = (i : Int) + 1 := wrap64 (by omega)
      have e5 : IntKind.i64.wrap ((n : Int) + 1) = (n : Int) + 1 := wrap64 (by omega)
      have e6 := ha f.1 (hF.2 f (List.mem_of_getElem? hf))
      have e6' := ha name (by assumption)
      have e7 := getB_step hf name
      have hlow := bcs_low F 0
      have hne : ((foldB f.1).toList == (foldB name).toList) = alikeB f.1 name := by
        simp only [ByteArray.toList_eq, foldB, alikeB]
      obtain ⟨b, hb⟩ : ∃ b, alikeB f.1 name = b := ⟨_, rfl⟩
      rw [hb] at hne
      simp only [hb] at e7
      cases b with
      | false =>
        simp only [b_nuncioref13_Get_0, headR]
        simp [evC, evOps, evPre, stepG, stepP, guardOk, stepOp, simpleV, X.ev, look, flatBin, flatUn, St.putD, St.put, St.putOwn, dropSlot, dropAl, ment, loadV, PV.good, PV.cells, callSt, noPtrs, PV.noPtr, tupOf, St.only, trim, lows, PV.low, preDyn, fillP, origin, pvAt, mentC, sliceBnd, intOfPV, e1, e2, e3, e4, e6, e6', hlow, rn_some, hne]
        exact ⟨v, n, i + 1, ⟨rfl, rfl, rfl⟩, by omega, by omega, fun o s h => by rw [e7]; exact h⟩
      | true =>
        by_cases h0 : n = 0
        · subst h0
          simp [b_nuncioref13_Get_0, headR, evC, evOps, evPre, stepG, stepP, guardOk, stepOp, simpleV, X.ev, look, flatBin, flatUn, St.putD, St.put, St.putOwn, dropSlot, dropAl, ment, loadV, PV.good, PV.cells, callSt, noPtrs, PV.noPtr, tupOf, St.only, trim, lows, PV.low, preDyn, fillP, origin, pvAt, mentC, sliceBnd, intOfPV, e1, e2, e3, e4, e6, e6', hlow, rn_some, wrap64, hne]
          exact ⟨f.2, 1, i + 1, ⟨rfl, rfl, rfl⟩, by omega, by omega, fun o s h => by rw [e7]; exact h⟩
        · have e9 : ((n : Int) == 0) = false := by simp; omega
          simp [b_nuncioref13_Get_0, headR, evC, evOps, evPre, stepG, stepP, guardOk, stepOp, simpleV, X.ev, look, flatBin, flatUn, St.putD, St.put, St.putOwn, dropSlot, dropAl, ment, loadV, PV.good, PV.cells, callSt, noPtrs, PV.noPtr, tupOf, St.only, trim, lows, PV.low, preDyn, fillP, origin, pvAt, mentC, sliceBnd, intOfPV, e1, e2, e3, e4, e5, e6, e6', e9, hlow, rn_some, hne]
          exact ⟨v, n + 1, i + 1, ⟨rfl, rfl, rfl⟩, by omega, by omega, fun o s h => by rw [e7, if_pos rfl, if_neg h0]; exact h⟩
    · have hil : i = F.length := by omega
      subst hil
      simp [b_nuncioref13_Get_0, headR, evC, evOps, evPre, stepG, stepP, guardOk, stepOp, simpleV, X.ev, look, flatBin, flatUn, St.putD, St.put, St.putOwn, dropSlot, dropAl, ment, loadV, PV.good, PV.cells, callSt, noPtrs, PV.noPtr, tupOf, St.only, trim, lows, PV.low, preDyn, fillP, origin, pvAt, mentC, sliceBnd, intOfPV, rn_some, getB, QG]
def few2 (f : BF) : BF := (fewB f.1, fewB f.2)
theorem few_size (s : ByteArray) : (fewB s).size ≤ 400 := by
  unfold fewB; rw [ByteArray.size_extract]; omega
def kcs (F : List BF) (i : Nat) : List PV := bcs ((F.take i).map few2)
def headH (F : List BF) (name : ByteArray) (i : Nat) (ow : List Loc) : St := ⟨[(0, .slc F.length (bcs F)), (1, .flat (.string name)), (5, .slc i (kcs F i)), (6, .slc i (kcs F i)), (7, .flat (.int .i64 i))], ow, [], []⟩
def QH (F : List BF) (name : ByteArray) (o : Out) (s : St) : Prop := o = .exit 0 ∧ look s.sl 1 = .flat (.string name) ∧ look s.sl 5 = .slc F.length (kcs F F.length) ∧ look s.sl 6 = .slc F.length (kcs F F.length) ∧ .slot 4 ∉ s.ow ∧ s.al = [] ∧ s.bx = [] ∧ ∀ b j, .cell b j ∉ s.ow
theorem take_snoc_few (F : List BF) (i : Nat) (f : BF) (hf : F[i]? = some f) : kcs F (i + 1) = kcs F i ++ [.flat (.string (fewB f.1)), .flat (.string (fewB f.2))] := by
  have hi := (List.getElem?_eq_some_iff.1 hf).1
  unfold kcs
  rw [List.take_succ_eq_append_getElem hi, (List.getElem?_eq_some_iff.1 hf).2, List.map_append, List.map_cons, List.map_nil, bcs_snoc]; rfl
theorem loopH (F : List BF) (name : ByteArray) (hF : F.length ≤ 20) : ∀ (n : Nat) (a : Nat × List Loc) (st : St), st.only [0, 1, 5, 6, 7] 0 = headH F name a.1 a.2 → (a.1 ≤ F.length ∧ (a.2 = [.slot 6, .slot 5] ∨ a.2 = [.slot 5, .slot 6])) → F.length - a.1 < n →
    Rn (evLoop (evC (evW code lib) big b_nunciolaw13_HeadGets_0) [0, 1, 5, 6, 7] 0 n st) (QH F name) := by
  refine rn_loop (fun a : Nat × List Loc => headH F name a.1 a.2) (fun a => a.1 ≤ F.length ∧ (a.2 = [.slot 6, .slot 5] ∨ a.2 = [.slot 5, .slot 6])) (fun a => F.length - a.1) (fun _ => QH F name) (fun ⟨i, ow⟩ ⟨hi, how⟩ => ?_)
  dsimp only at hi how
  by_cases hlt : i < F.length
  · obtain ⟨f, hf⟩ : ∃ f, F[i]? = some f := ⟨_, List.getElem?_eq_getElem hlt⟩
    have e1 : (i : Int) < F.length := by omega
    have e2 : (bcs F).drop (i * 2) = .flat (.string f.1) :: .flat (.string f.2) :: bcs (F.drop (i + 1)) := by
      rw [bcs_drop, List.drop_eq_getElem_cons hlt, bcs_cons, (List.getElem?_eq_some_iff.1 hf).2]
    have e3 : (0 : Int) ≤ i := by omega
    have e4 : IntKind.i64.wrap ((i : Int) + 1) = (i : Int) + 1 := wrap64 (by omega)
    have e5 := few_ev (lib := lib) f.1
    have e6 := few_ev (lib := lib) f.2
    have e7 : (kcs F i).length = i * 2 := by unfold kcs; rw [bcs_len, List.length_map, List.length_take]; omega
    have e8 : i + 1 ≤ bound := by unfold bound; omega
    have e9 := take_snoc_few F i f hf
    have hlow := fun F => bcs_low F 0
    have e10 : lows 0 (kcs F i) = true := bcs_low _ _
    rcases how with rfl | rfl
    · simp [b_nunciolaw13_HeadGets_0, headH, evC, evOps, evPre, stepG, stepP, guardOk, stepOp, simpleV, X.ev, look, flatBin, flatUn, St.putD, St.put, St.putOwn, dropSlot, dropAl, ment, loadV, PV.good, PV.cells, callSt, noPtrs, PV.noPtr, tupOf, St.only, trim, lows, PV.low, preDyn, fillP, origin, pvAt, mentC, sliceBnd, intOfPV, e1, e2, e3, e4, e5, e6, e7, e8, e10, hlow, rn_some]
      exact ⟨i + 1, _, ⟨⟨⟨rfl, e9.symm⟩, rfl⟩, rfl, by rw [← e9]; exact bcs_low _ _⟩, ⟨by omega, .inr rfl⟩, by omega⟩
    · simp [b_nunciolaw13_HeadGets_0, headH, evC, evOps, evPre, stepG, stepP, guardOk, stepOp, simpleV, X.ev, look, flatBin, flatUn, St.putD, St.put, St.putOwn, dropSlot, dropAl, ment, loadV, PV.good, PV.cells, callSt, noPtrs, PV.noPtr, tupOf, St.only, trim, lows, PV.low, preDyn, fillP, origin, pvAt, mentC, sliceBnd, intOfPV, e1, e2, e3, e4, e5, e6, e7, e8, e10, hlow, rn_some]
      exact ⟨i + 1, _, ⟨⟨⟨rfl, e9.symm⟩, rfl⟩, rfl, by rw [← e9]; exact bcs_low _ _⟩, ⟨by omega, .inr rfl⟩, by omega⟩
  · have hil : i = F.length := by omega
    subst hil
    rcases how with rfl | rfl <;> simp [b_nunciolaw13_HeadGets_0, headH, evC, evOps, evPre, stepG, stepP, guardOk, stepOp, simpleV, X.ev, look, flatBin, flatUn, St.putD, St.put, St.putOwn, dropSlot, dropAl, ment, loadV, PV.good, PV.cells, callSt, noPtrs, PV.noPtr, tupOf, St.only, trim, lows, PV.low, preDyn, fillP, origin, pvAt, mentC, sliceBnd, intOfPV, rn_some, QH]
theorem kcs_end (F : List BF) : kcs F F.length = bcs (F.map few2) := by unfold kcs; rw [List.take_length]
theorem small_few (F : List BF) (h : F.length ≤ 20) : Small (F.map few2) := by
  refine ⟨by rw [List.length_map]; omega, fun f hf => ?_⟩
  obtain ⟨g, _, rfl⟩ := List.mem_map.1 hf
  have := few_size g.1
  unfold few2; dsimp only; omega
theorem headGets_ev (L : List BF) (name : ByteArray) (ha : ∀ s t : ByteArray, s.size ≤ 1000000 → t.size ≤ 1000000 → evW code lib 36 [.flat (.string s), .flat (.string t)] [] [] = some ([.flat (.bool (alikeB s t))], false, [], []))
    (hf : ∀ s : ByteArray, s.size ≤ 1000000 → evW code lib 41 [.flat (.string s)] [] [] = some ([.flat (.string (foldB s))], false, [], [])) (hw : evW code lib 13 [] [] [] = some ([.flat (.bool true)], false, [], [])) :
    evW code lib 7 [.slc L.length (bcs L), .flat (.string name)] [] [] = some ([.flat (.bool true)], false, [], []) := by
  refine evW_run code_nunciolaw13_HeadGets (by simp [c_nunciolaw13_HeadGets]) ?_
  obtain ⟨F, hF⟩ : ∃ F, L.take 20 = F := ⟨_, rfl⟩
  have hFl : F.length ≤ 20 := by rw [← hF, List.length_take]; omega
  have hn := few_ev (lib := lib) name
  have hnz : (fewB name).size ≤ 1000000 := by have := few_size name; omega
  have hs := small_few F hFl
  have h1 := get_ev (lib := lib) (F.map few2) (fewB name) hs fun f hm => ha _ _ (hs.2 f hm) hnz
  have h2 := getr_ev (lib := lib) (F.map few2) (fewB name) hs hf hnz
  rw [List.length_map] at h1 h2
  obtain ⟨R, hR⟩ : ∃ R, getB (fewB name) (F.map few2) ⟨#[]⟩ 0 = R := ⟨_, rfl⟩
  rw [hR] at h1 h2
  have hnp := bcs_noPtr (F.map few2)
  have hloop : ∀ st : St, st.only [0, 1, 5, 6, 7] 0 = headH F name 0 [.slot 6, .slot 5] → ∃ s, evLoop (evC (evW code lib) big b_nunciolaw13_HeadGets_0) [0, 1, 5, 6, 7] 0 big st = some (.exit 0, s) ∧ QH F name (.exit 0) s := fun st h => by
    obtain ⟨o, s, k1, k2⟩ := loopH (lib := lib) F name hFl big (0, [.slot 6, .slot 5]) st h ⟨Nat.zero_le _, .inl rfl⟩ (by unfold big; dsimp only; omega)
    obtain rfl := k2.1
    exact ⟨s, k1, k2⟩
  have hk0 : kcs F 0 = [] := rfl
  by_cases hlt : 20 < L.length
  · have e1 : ((20 : Int) < L.length) := by omega
    have e2 : F.length = 20 := by rw [← hF, List.length_take]; omega
    have e3 : (bcs L).take 40 = bcs F := by rw [← hF]; exact bcs_take L 20
    have e4 := bcs_len L
    obtain ⟨⟨sl, ow, al, bx⟩, k1, _, k2, k3, k4, k5, k6, k7, k8⟩ := hloop { sl := [(7, .flat (.int .i64 0)), (6, .slc 0 []), (19, .slc 0 []), (5, .slc 0 []), (18, .slc 0 []), (0, .slc 20 (bcs F)), (17, .slc 20 (bcs F)), (16, .slc L.length (bcs L)), (15, .flat (.bool true)), (14, .flat (.int .i64 L.length)), (13, .slc L.length (bcs L)), (4, .flat (.bool false)), (0, .slc L.length (bcs L)), (1, .flat (.string name))], ow := [.slot 6, .slot 5], al := [], bx := [] } (by simp [St.only, headH, trim, look, hk0, e2])
    dsimp only at k2 k3 k4 k5 k6 k7 k8
    subst k6; subst k7
    rw [kcs_end] at k3 k4
    have e5 : ((20 : Int) ≤ L.length) := by omega
    rw [e2] at k3 k4 h1 h2
    simp [c_nunciolaw13_HeadGets, initSl, evC, evOps, evPre, stepG, stepP, guardOk, stepOp, simpleV, X.ev, look, flatBin, flatUn, St.putD, St.put, St.putOwn, dropSlot, dropAl, ment, loadV, PV.good, PV.cells, callSt, noPtrs, PV.noPtr, tupOf, St.only, trim, lows, PV.low, preDyn, fillP, origin, pvAt, mentC, sliceBnd, intOfPV, e1, e3, e4, e5, k1, k2, k3, k4, k5, k8, hn, h1, h2, hw, hnp, rn_some, resV, ownRes, cellsUpto]
    intro a ha
    intros
    cases a with
    | slot i => rfl
    | cell b j => exact absurd ha (k8 b j)
  · have e1 : ¬ ((20 : Int) < L.length) := by omega
    have e2 : F = L := by rw [← hF]; exact List.take_of_length_le (by omega)
    subst e2
    obtain ⟨⟨sl, ow, al, bx⟩, k1, _, k2, k3, k4, k5, k6, k7, k8⟩ := hloop { sl := [(7, .flat (.int .i64 0)), (6, .slc 0 []), (19, .slc 0 []), (5, .slc 0 []), (18, .slc 0 []), (15, .flat (.bool false)), (14, .flat (.int .i64 F.length)), (13, .slc F.length (bcs F)), (4, .flat (.bool false)), (0, .slc F.length (bcs F)), (1, .flat (.string name))], ow := [.slot 6, .slot 5], al := [], bx := [] } (by simp [St.only, headH, trim, look, hk0])
    dsimp only at k2 k3 k4 k5 k6 k7 k8
    subst k6; subst k7
    rw [kcs_end] at k3 k4
    simp [c_nunciolaw13_HeadGets, initSl, evC, evOps, evPre, stepG, stepP, guardOk, stepOp, simpleV, X.ev, look, flatBin, flatUn, St.putD, St.put, St.putOwn, dropSlot, dropAl, ment, loadV, PV.good, PV.cells, callSt, noPtrs, PV.noPtr, tupOf, St.only, trim, lows, PV.low, preDyn, fillP, origin, pvAt, mentC, sliceBnd, intOfPV, e1, k1, k2, k3, k4, k5, k8, hn, h1, h2, hw, hnp, rn_some, resV, ownRes, cellsUpto]
    intro a ha
    intros
    cases a with
    | slot i => rfl
    | cell b j => exact absurd ha (k8 b j)
end Nun
