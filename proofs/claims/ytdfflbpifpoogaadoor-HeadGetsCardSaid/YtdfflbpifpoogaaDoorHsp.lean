/- head.Split: a range over the lines. -/
import Derived.Test.YtdfflbpifpoogaaDoorHli
set_option linter.unusedVariables false
namespace Nun
open Go Go.RowKit
def fldCells (l : List Fld) : List Value := l.flatMap fun p => [.string ⟨p.1.toArray⟩, .string ⟨p.2.toArray⟩]
theorem fldCells_len (l : List Fld) : (fldCells l).length = l.length * 2 := by
  induction l with
  | nil => rfl
  | cons p l ih => show (([.string ⟨p.1.toArray⟩, .string ⟨p.2.toArray⟩] : List Value) ++ fldCells l).length = _; rw [List.length_append, ih]; simp; omega
theorem fldCells_snoc (l : List Fld) (p : Fld) : fldCells (l ++ [p]) = fldCells l ++ [.string ⟨p.1.toArray⟩, .string ⟨p.2.toArray⟩] := by simp [fldCells]
def lnsOf (pre : List LineAt) : List (List UInt8) := pre.map fun x => x.1.1.data.toList
def stOf (pre : List LineAt) : List Fld × Bool := (linesL (lnsOf pre) ([], false)).getD ([], false)
def HGood (pre : List LineAt) : Prop := linesL (lnsOf pre) ([], false) = some (stOf pre) ∧ ∀ x ∈ pre, x.1.1.data.toList ≠ []
theorem good_nil : HGood [] := ⟨rfl, by simp⟩
theorem good_snoc {pre : List LineAt} {x : LineAt} {st : List Fld × Bool} (h : HGood pre) (hx : x.1.1.data.toList ≠ []) (hs : lineStep (stOf pre) x.1.1.data.toList = some st) : HGood (pre ++ [x]) ∧ stOf (pre ++ [x]) = st := by
  have e : linesL (lnsOf (pre ++ [x])) ([], false) = some st := by
    unfold lnsOf; rw [List.map_append, List.map_singleton, linesL_snoc]
    show (linesL (lnsOf pre) ([], false)).bind _ = _
    rw [h.1]; exact hs
  refine ⟨⟨by unfold stOf; rw [e]; rfl, ?_⟩, by unfold stOf; rw [e]; rfl⟩
  intro y hy
  rcases List.mem_append.1 hy with hy | hy
  · exact h.2 y hy
  · rw [List.mem_singleton.1 hy]; exact hx
theorem run_good {pre : List LineAt} (h : HGood pre) (r : List (List UInt8 × Nat)) : runHead (pre.map LineAt.pair ++ r) ([], false) = runHead r (stOf pre) := by
  refine runHead_app _ _ _ _ ?_ ?_
  · intro x hx
    obtain ⟨y, hy, rfl⟩ := List.mem_map.1 hx
    exact h.2 y hy
  · rw [List.map_map]; exact h.1
theorem step_hid {st : List Fld × Bool} {l : List UInt8} (h : l.all shownC = false) : lineStep st l = none := by unfold lineStep; rw [if_pos h]
theorem step_blank_nil {st : List Fld × Bool} {l : List UInt8} (hb : (l.head?.map blankC).getD false = true) (h : st.1 = []) : lineStep st l = none := by
  by_cases hs : l.all shownC = false
  · exact step_hid hs
  · unfold lineStep; rw [if_neg hs, if_pos hb, h]; rfl
theorem step_blank {st : List Fld × Bool} {l : List UInt8} {F : List Fld} {q : Fld} (hs : l.all shownC = true) (hb : (l.head?.map blankC).getD false = true) (h : st.1 = F ++ [q]) :
    lineStep st l = some (F ++ [(q.1, q.2 ++ l)], st.2 || decide (998 < l.length)) := by
  unfold lineStep
  rw [if_neg (by simp [hs]), if_pos hb, h, List.getLast?_concat]; simp
theorem step_nocolon {st : List Fld × Bool} {l : List UInt8} (hb : (l.head?.map blankC).getD false = false) (h : byteAt 58 l = none) : lineStep st l = none := by
  by_cases hs : l.all shownC = false
  · exact step_hid hs
  · unfold lineStep; rw [if_neg hs, if_neg (by simp [hb]), h]
theorem step_noname {st : List Fld × Bool} {l : List UInt8} {k : Nat} (hb : (l.head?.map blankC).getD false = false) (h : byteAt 58 l = some k) (hn : nameL (l.take k) = false) : lineStep st l = none := by
  by_cases hs : l.all shownC = false
  · exact step_hid hs
  · unfold lineStep; rw [if_neg hs, if_neg (by simp [hb]), h]; simp [hn]
theorem step_field {st : List Fld × Bool} {l : List UInt8} {k : Nat} (hs : l.all shownC = true) (hb : (l.head?.map blankC).getD false = false) (h : byteAt 58 l = some k) (hn : nameL (l.take k) = true) :
    lineStep st l = some (st.1 ++ [(l.take k, l.drop (k + 1))], st.2 || decide (998 < l.length)) := by
  unfold lineStep
  rw [if_neg (by simp [hs]), if_neg (by simp [hb]), h]; simp [hn]
theorem step_len {st st' : List Fld × Bool} {l : List UInt8} (h : lineStep st l = some st') : st'.1.length ≤ st.1.length + 1 := by
  unfold lineStep at h
  split at h
  · cases h
  · split at h
    · split at h
      · cases h
      · cases h; simp
    · split at h
      · cases h
      · split at h
        · cases h; simp
        · cases h
theorem lines_len : ∀ (ls : List (List UInt8)) (st st' : List Fld × Bool), linesL ls st = some st' → st'.1.length ≤ st.1.length + ls.length
  | [], st, st', h => by simp [linesL] at h; rw [h]; simp
  | l :: ls, st, st', h => by
    rw [linesL, List.foldlM_cons] at h
    obtain ⟨s1, h1, h2⟩ := Option.bind_eq_some_iff.1 h
    have := step_len h1
    have := lines_len ls s1 st' h2
    rw [List.length_cons]; omega
theorem step_vals {st st' : List Fld × Bool} {l : List UInt8} {C : Nat} (h : lineStep st l = some st') (hC : ∀ f ∈ st.1, f.2.length ≤ C) : ∀ f ∈ st'.1, f.2.length ≤ C + l.length := by
  unfold lineStep at h
  split at h
  · cases h
  · split at h
    · split at h
      · cases h
      · rename_i q hq
        cases h
        intro f hf
        rcases List.mem_append.1 hf with hf | hf
        · have := hC f ((List.dropLast_sublist _).subset hf); omega
        · rw [List.mem_singleton.1 hf, List.length_append]
          have := hC q (List.mem_of_getLast? hq); omega
    · split at h
      · cases h
      · split at h
        · cases h
          intro f hf
          rcases List.mem_append.1 hf with hf | hf
          · have := hC f hf; omega
          · rw [List.mem_singleton.1 hf, List.length_drop]; omega
        · cases h
theorem lines_vals : ∀ (ls : List (List UInt8)) (st st' : List Fld × Bool) (C M : Nat), linesL ls st = some st' → (∀ f ∈ st.1, f.2.length ≤ C) → (∀ l ∈ ls, l.length ≤ M) → ∀ f ∈ st'.1, f.2.length ≤ C + M * ls.length
  | [], st, st', C, M, h, hC, _ => by simp [linesL] at h; rw [← h]; simpa using hC
  | l :: ls, st, st', C, M, h, hC, hM => by
    rw [linesL, List.foldlM_cons] at h
    obtain ⟨s1, h1, h2⟩ := Option.bind_eq_some_iff.1 h
    have a := step_vals h1 hC
    have hl := hM l (by simp)
    have := lines_vals ls s1 st' (C + M) M h2 (fun f hf => by have := a f hf; omega) (fun x hx => hM x (by simp [hx]))
    intro f hf
    have := this f hf
    rw [List.length_cons, Nat.mul_succ]; omega
theorem good_vals {pre : List LineAt} (h : HGood pre) : ∀ f ∈ (stOf pre).1, f.2.length ≤ 10000 * pre.length := by
  have := lines_vals _ _ _ 0 10000 h.1 (by simp) (by
    intro l hl
    unfold lnsOf at hl
    obtain ⟨x, _, rfl⟩ := List.mem_map.1 hl
    exact x.2.1)
  simpa [lnsOf] using this
theorem good_len {pre : List LineAt} (h : HGood pre) : (stOf pre).1.length ≤ pre.length := by
  have := lines_len _ _ _ h.1
  simpa [lnsOf] using this
theorem head_blank (p : ByteArray) (h : 0 < p.size) : (p.data.toList.head?.map blankC).getD false = blankC p[0] := by
  rw [List.head?_eq_getElem?, List.getElem?_eq_getElem (show 0 < p.data.toList.length from h)]; rfl
theorem blank_yes : ∀ c : UInt8, blankC c = true → ((c.toNat : Int) == 32) = true ∨ ((c.toNat : Int) == 32) = false ∧ ((c.toNat : Int) == 9) = true := by decide +kernel
theorem blank_no : ∀ c : UInt8, blankC c = false → ((c.toNat : Int) == 32) = false ∧ ((c.toNat : Int) == 9) = false := by decide +kernel
theorem row_set {W : World} {B t e base size n : Nat} {u v : Value} {xs : List Value} (h : Boxed W B t u) (hte : t ≠ e) (hr : W.ownsRow base e size v n xs) (u' : Value) : (W.setCell ⟨B, 0, none⟩ u').ownsRow base e size v n xs :=
  hr.kept (grownBy_setCell' W B u') (.inr (h.not_row hte hr).symm)
theorem keepsTwo_set {b c B : Nat} {W : World} (hb : b ≠ B) (hc : c ≠ B) (u : Value) (o : Nat) : KeepsTwo b c W (W.setCell ⟨B, o, none⟩ u) :=
  ⟨Below.heap_setCell _ _ _ _ (by simpa using hb), Below.heap_setCell _ _ _ _ (by simpa using hc)⟩
theorem own_below {w w' : World} {B e size n : Nat} {v : Value} {xs : List Value} (h : w.ownsRow B e size v n xs) (k : Below w.heap.size w w') : w'.ownsRow B e size v n xs :=
  World.ownsRow.kept (row := none) h ⟨k.os, k.tape, k.output, k.size, fun i hi _ => k.block i hi⟩ (by cases v.ownBlock <;> simp)
theorem cell_two_new (w : World) (x y : Value) (t : TypeId) : ∀ (j : Nat) u, [x, y][j]? = some u → (w.alloc (.cells #[x, y] t)).cell? ((⟨w.heap.size, 0, none⟩ : Addr).add j) = some u := by
  intro j u hj
  match j, hj with
  | 0, hj => simp at hj; subst hj; simp [Addr.add]
  | 1, hj => simp at hj; subst hj; simp [Addr.add]
theorem row_form {w : World} {B : Nat} {e size : Nat} {v : Value} {n : Nat} {xs : List Value} (h : w.ownsRow B e size v n xs) : (v = .slice none 0 0 ∧ n = 0) ∨ ∃ g cap, v = .slice (some ⟨g, 0, none⟩) n cap ∧ B ≤ g ∧ g < w.heap.size ∧ n ≤ cap := by
  rcases h.2 with h0 | ⟨g, cap, cur, rfl, hb, hh, hc, _⟩
  · exact .inl h0
  · exact .inr ⟨g, cap, rfl, hb, (Array.getElem?_eq_some_iff.1 hh).1, hc⟩
end Nun
namespace Go.Proofs.YtdfflbpifpoogaaDoor
open Go Go.RowKit Nun
theorem shown_of (s : ByteArray) (b : Bool) (h : s.data.toList.all shownC = b) (w : World) (hs : s.size ≤ maxLen) : Calls Tryd.prog 21 #[.string s] w (Same (.bool b) w) := h ▸ shown_any s w hs
theorem named_of (s : ByteArray) (b : Bool) (h : nameL s.data.toList = b) (w : World) (hs : s.size ≤ maxLen) : Calls Tryd.prog 23 #[.string s] w (Same (.bool b) w) := h ▸ named_any s w hs
attribute [local go_sem] Oper.semAt_some
theorem lines_any (s : ByteArray) (w : World) : Calls Tryd.prog 20 #[.string s] w fun e w' => e = .returned (.func (.func 42) #[] #[.pointer (some ⟨w.heap.size, 0, none⟩)]) ∧ w' = w.alloc (.cells #[.string s] 9) := by
  go_enter Tryd.func20, Tryd.ntmps20
  go_wp2
  go_ret
  exact ⟨rfl, rfl⟩
def splitV : Split → World → Ending → World → Prop
  | .form, w, e, w' => e = .returned (.tuple #[.slice none 0 0, .int .i64 0, .int .i64 7]) ∧ Below w.heap.size w w'
  | .long, w, e, w' => e = .returned (.tuple #[.slice none 0 0, .int .i64 0, .int .i64 6]) ∧ Below w.heap.size w w'
  | .ok l b, w, e, w' => ∃ v, e = .returned (.tuple #[v, .int .i64 b, .int .i64 0]) ∧ w'.ownsRow w.heap.size 46 2 v l.length (fldCells l) ∧ Below w.heap.size w w'
/-- Between two rounds. -/
def Mid (n0 : Nat) (w : World) (s : ByteArray) (pre : List LineAt) (W : World) : Prop :=
  (((∃ v, Boxed W n0 23 v ∧ W.ownsRow n0 46 2 v (stOf pre).1.length (fldCells (stOf pre).1) ∧ True) ∧ Boxed W (n0 + 1) 3 (.int .i64 0) ∧ Boxed W (n0 + 1 + 1) 24 (.int .i64 (if (stOf pre).2 then 6 else 0)) ∧ Boxed W (n0 + 1 + 1 + 1) 9 (.string s)) ∧ HGood pre) ∧ Below n0 w W
/-- Behind a jump out. -/
def Out (n0 : Nat) (w : World) (c : Code) (pre : List LineAt) (W : World) : Prop :=
  (((Boxed W n0 23 (.slice none 0 0) ∧ Boxed W (n0 + 1) 3 (.int .i64 0) ∧ Boxed W (n0 + 1 + 1) 24 (.int .i64 7)) ∧ (c = .ret ∧ ∃ pre0 x, pre = pre0 ++ [x] ∧ HGood pre0 ∧ x.1.1.data.toList ≠ [] ∧ lineStep (stOf pre0) x.1.1.data.toList = none)) ∧ Below n0 w W) ∨
  (((∃ v, Boxed W n0 23 v ∧ W.ownsRow n0 46 2 v (stOf pre.dropLast).1.length (fldCells (stOf pre.dropLast).1) ∧ True) ∧ Boxed W (n0 + 1) 3 (.int .i64 ((pre.getLast?.map fun x => x.1.2).getD 0 : Nat)) ∧ Boxed W (n0 + 1 + 1) 24 (.int .i64 (if (stOf pre.dropLast).2 then 6 else 0))) ∧ (c = .exit 0 ∧ ∃ pre0 x, pre = pre0 ++ [x] ∧ HGood pre0 ∧ x.1.1.data.toList = [])) ∧ Below n0 w W
theorem OwnFrom.or {β : Type} {B : Nat} {I J : β → World → Prop} (h : OwnFrom B I) (k : OwnFrom B J) : OwnFrom B (fun s W => I s W ∨ J s W) := fun s W W' row hs hg hr => hs.elim (fun a => .inl (h s W W' row a hg hr)) (fun a => .inr (k s W W' row a hg hr))
theorem mid_own (n0 : Nat) (w : World) (s : ByteArray) (B : Nat) (hn : n0 ≤ w.heap.size) (hB : n0 ≤ B) : OwnFrom B (Mid n0 w s) :=
  OwnFrom.and (OwnFrom.and (OwnFrom.and (Own.from (holdsRow_own n0 n0 23 46 2 (fun pre : List LineAt => (stOf pre).1.length) (fun pre => fldCells (stOf pre).1) (fun _ _ => True)) _) (OwnFrom.and (Own.from (boxed_own _ _ _) _) (OwnFrom.and (Own.from (boxed_own _ _ _) _) (Own.from (boxed_own _ _ _) _)))) (ownFrom_pure _ _)) (ownFrom_below hn hB)
theorem out_own (n0 : Nat) (w : World) (c : Code) (B : Nat) (hn : n0 ≤ w.heap.size) (hB : n0 ≤ B) : OwnFrom B (Out n0 w c) :=
  OwnFrom.or (OwnFrom.and (OwnFrom.and (OwnFrom.and (Own.from (boxed_own _ _ _) _) (OwnFrom.and (Own.from (boxed_own _ _ _) _) (Own.from (boxed_own _ _ _) _))) (ownFrom_pure _ _)) (ownFrom_below hn hB))
    (OwnFrom.and (OwnFrom.and (OwnFrom.and (Own.from (holdsRow_own n0 n0 23 46 2 (fun pre : List LineAt => (stOf pre.dropLast).1.length) (fun pre => fldCells (stOf pre.dropLast).1) (fun _ _ => True)) _) (OwnFrom.and (Own.from (boxed_own _ _ _) _) (Own.from (boxed_own _ _ _) _))) (ownFrom_pure _ _)) (ownFrom_below hn hB))
end Go.Proofs.YtdfflbpifpoogaaDoor
