/- head.Split: a range over the lines: the walk. -/
import Derived.Test.YtdfflbpifpoogaaDoorHsp
import Derived.Test.YtdfflbpifpoogaaDoorTai
import Derived.RegionTactic
import Derived.ChangeAlike
set_option linter.unusedVariables false
namespace Go.Proofs.YtdfflbpifpoogaaDoor
open Go Go.RowKit Nun
attribute [local go_sem] Oper.semAt_some
theorem putObj_box {W : World} {D B t : Nat} {v : Value} (h : D ≠ B) (hb : Boxed W B t v) (o : Obj) : Boxed (W.putObj D o) B t v := (World.putObj_heap_other (Ne.symm h)).trans hb
theorem results_box {w : World} {tmps : Array Value} {n0 : Nat} {v b e : Value} (c1 : w.cell? ⟨n0, 0, none⟩ = some v) (c2 : w.cell? ⟨n0 + 1, 0, none⟩ = some b) (c3 : w.cell? ⟨n0 + 1 + 1, 0, none⟩ = some e)
    (h2 : tmps.getD 2 undef = .pointer (some ⟨n0, 0, none⟩) := by rfl) (h3 : tmps.getD 3 undef = .pointer (some ⟨n0 + 1, 0, none⟩) := by rfl) (h4 : tmps.getD 4 undef = .pointer (some ⟨n0 + 1 + 1, 0, none⟩) := by rfl) :
    (results Tryd.f9 tmps).run Tryd.prog w = .ok (.tuple #[v, b, e]) w := by
  rw [Array.getD_eq_getD_getElem?] at h2 h3 h4
  simp [results, Tryd.results9, go_sem, c1, c2, c3, h2, h3, h4]
/-- The frame when a round begins. -/
def roundAct (n0 : Nat) (s : ByteArray) (x : LineAt) : Act := { tmps := #[.string s, undef, .pointer (some ⟨n0, 0, none⟩), .pointer (some ⟨n0 + 1, 0, none⟩), .pointer (some ⟨n0 + 1 + 1, 0, none⟩), .string x.1.1, .int .i64 x.1.2, undef, undef, undef, undef, .string s, .func (.func 42) #[] #[.pointer (some ⟨n0 + 1 + 1 + 1, 0, none⟩)], .string x.1.1, .int .i64 x.1.2, undef, undef, undef, undef, undef, undef, undef, undef, undef, undef, undef, undef, undef, undef, undef, undef, undef, undef, undef, undef, undef, undef, undef, undef, undef, undef, undef, undef, undef, undef, undef, undef, undef, undef, undef, undef, undef, undef, undef, undef, undef, undef, undef, undef, undef, undef, undef, undef, undef, undef, undef, undef, undef, undef, undef, undef, undef, undef, undef, undef, undef, undef, undef, undef, undef, undef, undef, undef, undef, undef, undef, undef, undef, undef, undef, undef, undef, undef, undef, undef], defers := [] }
/-- A line with a field. -/
theorem field_more {n0 k : Nat} {w W w2 w3 : World} {s p a b : ByteArray} {at_ : Nat} {pre : List LineAt} {v v3 : Value} {L : Bool} {tmp : Obj} (hp : p.size ≤ 10000 ∧ at_ ≤ 20000)
    (hl : Boxed w2 n0 23 v) (hb : Boxed w2 (n0 + 1) 3 (.int .i64 0)) (he : Boxed w2 (n0 + 1 + 1) 24 (.int .i64 (if L then 6 else 0))) (hs : Boxed w2 (n0 + 1 + 1 + 1) 9 (.string s))
    (hB : Below n0 w w2) (hk : KeepsOthers W w2) (hkp : KeepsTwo (n0 + 1 + 1 + 1) 0 W w2) (hg : HGood pre) (hne : ¬ p.data.toList = [])
    (hst : lineStep (stOf pre) p.data.toList = some ((stOf pre).1 ++ [(p.data.toList.take k, p.data.toList.drop (k + 1))], L)) (hal : a.data.toList = p.data.toList.take k) (hbl : b.data.toList = p.data.toList.drop (k + 1))
    (hrow : w2.ownsRow n0 46 2 v (stOf pre).1.length (fldCells (stOf pre).1)) (hw2 : n0 ≤ w2.heap.size) (hmax : 0 < n0)
    (hown : w3.ownsRow n0 46 2 v3 ((stOf pre).1.length + 1) (fldCells (stOf pre).1 ++ [.string a, .string b])) (hgr : (w2.alloc tmp).grownBy w3 v.ownBlock) :
    KeepsOthers W (w3.setCell ⟨n0, 0, none⟩ v3) ∧ KeepsTwo (n0 + 1 + 1 + 1) 0 W (w3.setCell ⟨n0, 0, none⟩ v3) ∧ Mid n0 w s (pre ++ [⟨(p, at_), hp⟩]) (w3.setCell ⟨n0, 0, none⟩ v3) := by
  obtain ⟨hg2, hst2⟩ := good_snoc (x := ⟨(p, at_), hp⟩) hg hne hst
  obtain ⟨_, h2, h3, h4, h5⟩ := Boxed.appended hl (by decide) hrow hw2 (Nat.le_refl _) hown hgr
  have kp : ∀ {B t : Nat} {u : Value}, Boxed w2 B t u → t ≠ 46 → B ≠ n0 → Boxed (w3.setCell ⟨n0, 0, none⟩ v3) B t u := fun h ht hn => ((h.alloc tmp).kept hgr (h.not_row ht hrow)).other hn _
  have hs3 := kp hs (by decide) (by omega)
  have ea : (⟨(p.data.toList.take k).toArray⟩ : ByteArray) = a := by apply ByteArray.ext; apply Array.ext'; rw [hal]
  have eb : (⟨(p.data.toList.drop (k + 1)).toArray⟩ : ByteArray) = b := by apply ByteArray.ext; apply Array.ext'; rw [hbl]
  refine ⟨hk.trans h4, keepsTwo_t hkp ⟨Eq.trans hs3 (Eq.symm hs), h5.block _ hmax⟩, ⟨⟨⟨_, h2, ?_, trivial⟩, kp hb (by decide) (by omega), ?_, hs3⟩, hg2⟩, hB.trans h5⟩
  · rw [hst2, fldCells_snoc]
    dsimp only
    rw [List.length_append, List.length_singleton, ea, eb]
    exact h3
  · rw [hst2]; exact kp he (by decide) (by omega)
/-- A line that goes on: the last field's value is longer. -/
theorem last_more {n0 g cap m : Nat} {w W W1 : World} {s p : ByteArray} {at_ : Nat} {pre : List LineAt} {F0 : List Fld} {q : Fld} {L : Bool} (hp : p.size ≤ 10000 ∧ at_ ≤ 20000)
    (hl : Boxed W1 n0 23 (.slice (some ⟨g, 0, none⟩) (m + 1) cap)) (hb : Boxed W1 (n0 + 1) 3 (.int .i64 0)) (he : Boxed W1 (n0 + 1 + 1) 24 (.int .i64 (if L then 6 else 0))) (hs : Boxed W1 (n0 + 1 + 1 + 1) 9 (.string s))
    (hB : Below n0 w W1) (hk : KeepsOthers W W1) (hkp : KeepsTwo (n0 + 1 + 1 + 1) 0 W W1) (hg : HGood pre) (hne : ¬ p.data.toList = [])
    (hst : lineStep (stOf pre) p.data.toList = some (F0 ++ [(q.1, q.2 ++ p.data.toList)], L)) (hm : F0.length = m) (hg0 : n0 ≤ g)
    (hrow : W1.ownsRow n0 46 2 (.slice (some ⟨g, 0, none⟩) (m + 1) cap) (m + 1) (fldCells F0 ++ [.string ⟨q.1.toArray⟩, .string ⟨q.2.toArray⟩])) (hmax : 0 < n0) :
    KeepsOthers W (W1.setCell ⟨g, m * 2 + 1, none⟩ (.string (⟨q.2.toArray⟩ ++ p))) ∧ KeepsTwo (n0 + 1 + 1 + 1) 0 W (W1.setCell ⟨g, m * 2 + 1, none⟩ (.string (⟨q.2.toArray⟩ ++ p))) ∧ Mid n0 w s (pre ++ [⟨(p, at_), hp⟩]) (W1.setCell ⟨g, m * 2 + 1, none⟩ (.string (⟨q.2.toArray⟩ ++ p))) := by
  obtain ⟨hg2, hst2⟩ := good_snoc (x := ⟨(p, at_), hp⟩) hg hne hst
  have ne : ∀ {B t : Nat} {u : Value}, Boxed W1 B t u → t ≠ 46 → B ≠ g := fun h ht e => h.not_row ht hrow (by rw [e]; rfl)
  have n1 := ne hl (by decide); have n2 := ne hb (by decide); have n3 := ne he (by decide); have n4 := ne hs (by decide)
  have kp : ∀ {B t : Nat} {u : Value}, Boxed W1 B t u → B ≠ g → Boxed (W1.setCell ⟨g, m * 2 + 1, none⟩ (.string (⟨q.2.toArray⟩ ++ p))) B t u := fun h hn => (Below.heap_setCell _ _ _ _ hn).trans h
  refine ⟨hk.trans (KeepsOthers.setCell _ _ _), keepsTwo_t hkp (keepsTwo_set n4 (by omega) _ _), ⟨⟨⟨_, kp hl n1, ?_, trivial⟩, kp hb n2, ?_, kp hs n4⟩, hg2⟩, hB.setCell (p := ⟨g, m * 2 + 1, none⟩) hg0 _⟩
  · have := (hrow.stored (m * 2 + 1) (.string (⟨q.2.toArray⟩ ++ p))).1
    rw [hst2, fldCells_snoc]
    dsimp only
    rw [List.length_append, hm, List.length_singleton]
    rw [List.set_append_right _ _ (by rw [fldCells_len]; omega), fldCells_len, hm, show m * 2 + 1 - m * 2 = 1 by omega] at this
    have e : (ByteArray.mk q.2.toArray ++ p) = ⟨(q.2 ++ p.data.toList).toArray⟩ := by
      apply ByteArray.ext; apply Array.ext'; simp
    rw [e] at this
    rw [← e]; rw [← e] at this
    exact this
  · rw [hst2]; exact kp he n3
theorem infoField : (Tryd.prog.info? 46).map (fun i => (i.zero, i.size, i.bytes)) = some (some (.agg #[.string ⟨#[]⟩, .string ⟨#[]⟩]), 2, 32) := by kernel_rfl
theorem form_out {n0 : Nat} {w W W1 : World} {v : Value} {b e : Int} {pre : List LineAt} {x : LineAt} (hl : Boxed W1 n0 23 v) (hb : Boxed W1 (n0 + 1) 3 (.int .i64 b)) (he : Boxed W1 (n0 + 1 + 1) 24 (.int .i64 e))
    (hB : Below n0 w W1) (hk : KeepsOthers W W1) (hg : HGood pre) (hx : x.1.1.data.toList ≠ []) (hs : lineStep (stOf pre) x.1.1.data.toList = none) :
    KeepsOthers W (((W1.setCell ⟨n0, 0, none⟩ (.slice none 0 0)).setCell ⟨n0 + 1, 0, none⟩ (.int .i64 0)).setCell ⟨n0 + 1 + 1, 0, none⟩ (.int .i64 7)) ∧
    Out n0 w .ret (pre ++ [x]) (((W1.setCell ⟨n0, 0, none⟩ (.slice none 0 0)).setCell ⟨n0 + 1, 0, none⟩ (.int .i64 0)).setCell ⟨n0 + 1 + 1, 0, none⟩ (.int .i64 7)) :=
  ⟨((hk.trans (KeepsOthers.setCell _ _ _)).trans (KeepsOthers.setCell _ _ _)).trans (KeepsOthers.setCell _ _ _),
    .inl ⟨⟨⟨((hl.set _).other (by omega) _).other (by omega) _, ((hb.other (by omega) _).set _).other (by omega) _, ((he.other (by omega) _).other (by omega) _).set _⟩, rfl, pre, x, rfl, hg, hx, hs⟩,
      ((hB.setCell (p := ⟨n0, 0, none⟩) (Nat.le_refl _) _).setCell (p := ⟨n0 + 1, 0, none⟩) (by simp) _).setCell (p := ⟨n0 + 1 + 1, 0, none⟩) (by simp; omega) _⟩⟩
set_option maxHeartbeats 2000000 in
set_option maxRecDepth 100000 in
theorem split_any (s : ByteArray) (w : World) (hm : MaxIs w) (hs : s.size ≤ 10000) : Calls Tryd.prog 9 #[.string s] w (splitV (splitL s.data.toList) w) := by
  refine (callsIn_wide (n := 3)).1 ?_
  refine callsIn_of_wp_marks Tryd.func9 rfl trivial ?_ rfl
  simp only [Tryd.ntmps9, List.size_toArray, List.length_cons, List.length_nil, Nat.reduceAdd, Nat.reduceSub, Array.replicate_succ, Array.replicate_zero, List.push_toArray, List.append_toArray, List.nil_append, List.cons_append]
  refine wpIn_wide.2 ?_
  go_wp2_with (go_at_call 20; refine (lines_any _ _).mono ?_; rintro e w' ⟨rfl, rfl⟩)
  obtain ⟨n0, hn0⟩ : ∃ n0, w.heap.size = n0 := ⟨_, rfl⟩
  have hB0 : Below n0 w ((((w.alloc (.cells #[.slice none 0 0] 23)).alloc (.cells #[.int .i64 0] 3)).alloc (.cells #[.int .i64 0] 24)).alloc (.cells #[.string s] 9)) := by
    rw [← hn0]; exact ((((Below.refl _ w).alloc (Nat.le_refl _) _).alloc (by simp) _).alloc (by simp; omega) _).alloc (by simp; omega) _
  have hl0 : Boxed ((((w.alloc (.cells #[.slice none 0 0] 23)).alloc (.cells #[.int .i64 0] 3)).alloc (.cells #[.int .i64 0] 24)).alloc (.cells #[.string s] 9)) n0 23 (.slice none 0 0) := by
    rw [← hn0]; exact (((Boxed.new w _ _).alloc _).alloc _).alloc _
  have hb0 : Boxed ((((w.alloc (.cells #[.slice none 0 0] 23)).alloc (.cells #[.int .i64 0] 3)).alloc (.cells #[.int .i64 0] 24)).alloc (.cells #[.string s] 9)) (n0 + 1) 3 (.int .i64 0) := by
    have := Boxed.new (w.alloc (.cells #[.slice none 0 0] 23)) 3 (.int .i64 0)
    rw [World.size_alloc, hn0] at this
    exact (this.alloc _).alloc _
  have he0 : Boxed ((((w.alloc (.cells #[.slice none 0 0] 23)).alloc (.cells #[.int .i64 0] 3)).alloc (.cells #[.int .i64 0] 24)).alloc (.cells #[.string s] 9)) (n0 + 1 + 1) 24 (.int .i64 0) := by
    have := Boxed.new ((w.alloc (.cells #[.slice none 0 0] 23)).alloc (.cells #[.int .i64 0] 3)) 24 (.int .i64 0)
    rw [World.size_alloc, World.size_alloc, hn0] at this
    exact this.alloc _
  have hs0 : Boxed ((((w.alloc (.cells #[.slice none 0 0] 23)).alloc (.cells #[.int .i64 0] 3)).alloc (.cells #[.int .i64 0] 24)).alloc (.cells #[.string s] 9)) (n0 + 1 + 1 + 1) 9 (.string s) := by
    have := Boxed.new (((w.alloc (.cells #[.slice none 0 0] 23)).alloc (.cells #[.int .i64 0] 3)).alloc (.cells #[.int .i64 0] 24)) 9 (.string s)
    rw [World.size_alloc, World.size_alloc, World.size_alloc, hn0] at this
    exact this
  have hsz : ((((w.alloc (.cells #[.slice none 0 0] 23)).alloc (.cells #[.int .i64 0] 3)).alloc (.cells #[.int .i64 0] 24)).alloc (.cells #[.string s] 9)).heap.size = n0 + 1 + 1 + 1 + 1 := by
    simp only [World.size_alloc, hn0]
  have hr0 : ((((w.alloc (.cells #[.slice none 0 0] 23)).alloc (.cells #[.int .i64 0] 3)).alloc (.cells #[.int .i64 0] 24)).alloc (.cells #[.string s] 9)).ownsRow n0 46 2 (.slice none 0 0) 0 [] := World.ownsRow_nil _ _ _ _
  have hm0 : MaxIs ((((w.alloc (.cells #[.slice none 0 0] 23)).alloc (.cells #[.int .i64 0] 3)).alloc (.cells #[.int .i64 0] 24)).alloc (.cells #[.string s] 9)) := hm.below' (by rw [← hn0]; exact hm.lt) hB0
  have hmlt : 0 < n0 := by rw [← hn0]; exact hm.lt
  have hwn : n0 ≤ w.heap.size := by omega
  rw [hn0]
  generalize ((((w.alloc (.cells #[.slice none 0 0] 23)).alloc (.cells #[.int .i64 0] 3)).alloc (.cells #[.int .i64 0] 24)).alloc (.cells #[.string s] 9)) = W0 at *
  refine (wpIn_wide (n := 3)).1 ?_
  refine wpIn_rangeFunc_ownF rfl (by omega) (gf := 42) (lb := #[.pointer (some ⟨n0 + 1 + 1 + 1, 0, none⟩)]) rfl trivial (enters_of Tryd.func42 (by kernel_rfl) rfl)
    (lines_stops _ (by omega) s hs (n0 + 1 + 1 + 1) _ hs0 hm0) keepsTwo_t (keepsTwo_b (by omega) (by omega)) (Below.refl _ _) (fun _ => rfl)
    (Mid n0 w s) (Out n0 w) (mid_own n0 w s _ hwn (by omega)) (fun c => out_own n0 w c _ hwn (by omega))
    ⟨⟨⟨⟨_, hl0, hr0, trivial⟩, hb0, he0, hs0⟩, good_nil⟩, hB0⟩ (roundAct n0 s) ?assign ?body ?done ?stop
  case assign =>
    intro l x W K hK
    gi_wp2
    exact hK
  case body =>
    rintro l pre x W ⟨⟨⟨⟨v, hbl, hrow, _⟩, hbb, hbe, hbs⟩, hgood⟩, hB⟩ hlen
    have hcl := hbl.cell; have hcb := hbb.cell; have hce := hbe.cell
    have hfl := hbl.frozen; have hfb := hbb.frozen; have hfe := hbe.frozen
    have HL := Lib.hid hbl; have HBB := Lib.hid hbb; have HE := Lib.hid hbe; have HS := Lib.hid hbs; clear hbl hbb hbe hbs
    obtain ⟨⟨p, at_⟩, hp⟩ := x
    dsimp only at hp
    unfold roundAct
    dsimp only
    by_cases he : p.data.toList = []
    · obtain rfl : p = ⟨#[]⟩ := by cases p with | mk d => cases d with | mk l => simp at he; subst he; rfl
      clear he
      gi_wp2
      refine ⟨KeepsOthers.setCell _ _ _, .inr ⟨⟨⟨⟨v, HL.out.other (by omega) _, ?_, trivial⟩, ?_, ?_⟩, rfl, pre, _, rfl, hgood, rfl⟩, hB.setCell (p := ⟨n0 + 1, 0, none⟩) (by simp) _⟩⟩
      · rw [List.dropLast_concat]; exact row_set HBB.out (by decide) hrow _
      · rw [List.getLast?_concat]; exact HBB.out.set _
      · rw [List.dropLast_concat]; exact HE.out.other (by omega) _
    · have HNE := Lib.hid he; clear he
      have e1 : p.toList = [] ↔ False := by rw [Lib.toList_data]; exact iff_of_false HNE.out id
      have e2 : p.toList.isEmpty = false := by
        rw [Lib.toList_data]
        cases h : p.data.toList with
        | nil => exact absurd h HNE.out
        | cons _ _ => rfl
      have hpos : 0 < p.size := by
        rcases Nat.eq_zero_or_pos p.size with h | h
        · exact absurd (List.eq_nil_of_length_eq_zero h) HNE.out
        · exact h
      obtain ⟨W1, hWa, hWb, hl1, hb1, he1, hs1, hrow1, hB1, hk1, hkp1⟩ : ∃ W1 : World, (998 < p.size → W.setCell ⟨n0 + 1 + 1, 0, none⟩ (.int .i64 6) = W1) ∧ (¬ 998 < p.size → W = W1) ∧ Boxed W1 n0 23 v ∧ Boxed W1 (n0 + 1) 3 (.int .i64 0) ∧
          Boxed W1 (n0 + 1 + 1) 24 (.int .i64 (if (stOf pre).2 || decide (998 < p.data.toList.length) then 6 else 0)) ∧ Boxed W1 (n0 + 1 + 1 + 1) 9 (.string s) ∧ W1.ownsRow n0 46 2 v (stOf pre).1.length (fldCells (stOf pre).1) ∧ Below n0 w W1 ∧ KeepsOthers W W1 ∧ KeepsTwo (n0 + 1 + 1 + 1) 0 W W1 := by
        rw [show p.data.toList.length = p.size from rfl]
        by_cases hlong : 998 < p.size
        · refine ⟨_, fun _ => rfl, fun h => absurd hlong h, HL.out.other (by omega) _, HBB.out.other (by omega) _, ?_, HS.out.other (by omega) _, row_set HE.out (by decide) hrow _, hB.setCell (p := ⟨n0 + 1 + 1, 0, none⟩) (by simp; omega) _, KeepsOthers.setCell _ _ _, keepsTwo_set (by omega) (by omega) _ _⟩
          rw [show decide (998 < p.size) = true by simpa using hlong, Bool.or_true]; exact HE.out.set _
        · refine ⟨W, fun h => absurd h hlong, fun _ => rfl, HL.out, HBB.out, ?_, HS.out, hrow, hB, KeepsOthers.refl _, keepsTwo_below (by have := HS.out.lt; omega) (by have := HS.out.lt; omega) (Below.refl _ _)⟩
          rw [show decide (998 < p.size) = false by simpa using hlong, Bool.or_false]; exact HE.out
      clear HL HBB HE HS
      have hcl1 := hl1.cell; have hcb1 := hb1.cell; have hce1 := he1.cell
      have hfl1 := hl1.frozen; have hfb1 := hb1.frozen; have hfe1 := he1.frozen
      have HL := Lib.hid hl1; have HBB := Lib.hid hb1; have HE := Lib.hid he1; have HS := Lib.hid hs1; clear hl1 hb1 he1 hs1
      have hpm : p.size ≤ maxLen := by unfold maxLen; omega
      have hhead := head_blank p hpos
      rcases hbl : blankC p[0] with _ | _
      · rw [hbl] at hhead
        obtain ⟨q1, q2⟩ := blank_no _ hbl
        clear hbl
        have hm1 : MaxIs W1 := hm.below' (by omega) hB1
        have hBs : w.heap.size ≤ W1.heap.size := hB1.size
        rcases hco : byteAt 58 p.data.toList with _ | k
        · have HSt := Lib.hid (step_nocolon (st := stOf pre) hhead hco)
          have HCO := Lib.hid hco; clear hco hhead
          by_cases hlong : 998 < p.size
          all_goals first | (replace hWa := hWa hlong; clear hWb) | (obtain rfl := hWb hlong; clear hWa hWb)
          all_goals
            gi_wp2_with (refine ⟨trivial, ?_⟩; gi_at_call 22; refine (CallsIn.inRound l (callsIn_wide.2 (cut_byte_no 58 p _ hm1 (by omega) HCO.out))).mono ?_; rintro e w2 ⟨rfl, hbw⟩; have hl2 : Boxed w2 n0 23 v := (hbw.block _ HL.out.lt).trans HL.out; have hb2 : Boxed w2 (n0 + 1) 3 (.int .i64 0) := (hbw.block _ HBB.out.lt).trans HBB.out; have he2 : Boxed w2 (n0 + 1 + 1) 24 (.int .i64 (if ((stOf pre).2 || decide (998 < p.data.toList.length)) = true then 6 else 0)) := (hbw.block _ HE.out.lt).trans HE.out; have hcl2 := Boxed.cell hl2; have hfl2 := Boxed.frozen hl2; have hcb2 := Boxed.cell hb2; have hfb2 := Boxed.frozen hb2; have hce2 := Boxed.cell he2; have hfe2 := Boxed.frozen he2; have HL2 := Lib.hid hl2; have HB2 := Lib.hid hb2; have HE2 := Lib.hid he2; clear hl2 hb2 he2)
            refine ⟨trivial, ?_⟩
            gi_wp2
            refine ⟨trivial, ?_⟩
            gi_wp2
            exact form_out (x := ⟨(p, at_), hp⟩) HL2.out HB2.out HE2.out (hB1.trans (hbw.mono (Nat.le_trans hwn hBs))) (hk1.trans (keeps_below hbw)) hgood HNE.out HSt.out
        · have hkl := byteAt_lt hco
          rw [show p.data.toList.length = p.size from rfl] at hkl
          rcases hna : nameL (p.data.toList.take k) with _ | _
          · have HSt := Lib.hid (step_noname (st := stOf pre) hhead hco hna)
            have HCO := Lib.hid hco; have HNA := Lib.hid hna; clear hco hhead hna
            by_cases hlong : 998 < p.size
            all_goals first | (replace hWa := hWa hlong; clear hWb) | (obtain rfl := hWb hlong; clear hWa hWb)
            all_goals
              gi_wp2_with (first | (refine ⟨trivial, ?_⟩; gi_at_call 22; refine (CallsIn.inRound l (callsIn_wide.2 (cut_byte_yes 58 p _ hm1 (by omega) k HCO.out))).mono ?_; rintro e w2 ⟨a, b, rfl, hak, hbk, hal, hbl, hbw⟩; have haz : a.size ≤ maxLen := (by unfold maxLen; omega); have HAK := Lib.hid hak; clear hak; have hl2 : Boxed w2 n0 23 v := (hbw.block _ HL.out.lt).trans HL.out; have hb2 : Boxed w2 (n0 + 1) 3 (.int .i64 0) := (hbw.block _ HBB.out.lt).trans HBB.out; have he2 : Boxed w2 (n0 + 1 + 1) 24 (.int .i64 (if ((stOf pre).2 || decide (998 < p.data.toList.length)) = true then 6 else 0)) := (hbw.block _ HE.out.lt).trans HE.out; have hcl2 := Boxed.cell hl2; have hfl2 := Boxed.frozen hl2; have hcb2 := Boxed.cell hb2; have hfb2 := Boxed.frozen hb2; have hce2 := Boxed.cell he2; have hfe2 := Boxed.frozen he2; have HL2 := Lib.hid hl2; have HB2 := Lib.hid hb2; have HE2 := Lib.hid he2; clear hl2 hb2 he2; have hrow2 := own_below hrow1 hbw; have hs2 : Boxed w2 (n0 + 1 + 1 + 1) 9 (.string s) := (hbw.block _ HS.out.lt).trans HS.out; have HS2 := Lib.hid hs2; clear hs2; have hw2n : n0 ≤ w2.heap.size := (by have := hbw.size; omega)) | (refine ⟨trivial, ?_⟩; gi_at_call 23; refine (CallsIn.inRound l (callsIn_wide.2 (named_of a false (by rw [hal.out]; exact HNA.out) _ haz))).mono ?_; rintro e w3 ⟨rfl, rfl⟩))
              refine ⟨trivial, ?_⟩
              gi_wp2
              exact form_out (x := ⟨(p, at_), hp⟩) HL2.out HB2.out HE2.out (hB1.trans (hbw.mono (Nat.le_trans hwn hBs))) (hk1.trans (keeps_below hbw)) hgood HNE.out HSt.out
          · rcases hsh : p.data.toList.all shownC with _ | _
            · have HSt := Lib.hid (step_hid (st := stOf pre) hsh)
              have HSH := Lib.hid hsh
              have HCO := Lib.hid hco; have HNA := Lib.hid hna; clear hco hhead hna hsh
              by_cases hlong : 998 < p.size
              all_goals first | (replace hWa := hWa hlong; clear hWb) | (obtain rfl := hWb hlong; clear hWa hWb)
              all_goals
                gi_wp2_with (first | (refine ⟨trivial, ?_⟩; gi_at_call 22; refine (CallsIn.inRound l (callsIn_wide.2 (cut_byte_yes 58 p _ hm1 (by omega) k HCO.out))).mono ?_; rintro e w2 ⟨a, b, rfl, hak, hbk, hal, hbl, hbw⟩; have haz : a.size ≤ maxLen := (by unfold maxLen; omega); have HAK := Lib.hid hak; clear hak; have hl2 : Boxed w2 n0 23 v := (hbw.block _ HL.out.lt).trans HL.out; have hb2 : Boxed w2 (n0 + 1) 3 (.int .i64 0) := (hbw.block _ HBB.out.lt).trans HBB.out; have he2 : Boxed w2 (n0 + 1 + 1) 24 (.int .i64 (if ((stOf pre).2 || decide (998 < p.data.toList.length)) = true then 6 else 0)) := (hbw.block _ HE.out.lt).trans HE.out; have hcl2 := Boxed.cell hl2; have hfl2 := Boxed.frozen hl2; have hcb2 := Boxed.cell hb2; have hfb2 := Boxed.frozen hb2; have hce2 := Boxed.cell he2; have hfe2 := Boxed.frozen he2; have HL2 := Lib.hid hl2; have HB2 := Lib.hid hb2; have HE2 := Lib.hid he2; clear hl2 hb2 he2; have hrow2 := own_below hrow1 hbw; have hs2 : Boxed w2 (n0 + 1 + 1 + 1) 9 (.string s) := (hbw.block _ HS.out.lt).trans HS.out; have HS2 := Lib.hid hs2; clear hs2; have hw2n : n0 ≤ w2.heap.size := (by have := hbw.size; omega)) | (refine ⟨trivial, ?_⟩; gi_at_call 23; refine (CallsIn.inRound l (callsIn_wide.2 (named_of a true (by rw [hal.out]; exact HNA.out) _ haz))).mono ?_; rintro e w3 ⟨rfl, rfl⟩) | (refine ⟨trivial, ?_⟩; gi_at_call 21; refine (CallsIn.inRound l (callsIn_wide.2 (shown_of p false HSH.out _ hpm))).mono ?_; rintro e w3 ⟨rfl, rfl⟩))
                exact form_out (x := ⟨(p, at_), hp⟩) HL2.out HB2.out HE2.out (hB1.trans (hbw.mono (Nat.le_trans hwn hBs))) (hk1.trans (keeps_below hbw)) hgood HNE.out HSt.out
            · obtain ⟨i0, hi0, hz0, hz1, hz2⟩ := info_parts infoField
              have hgl := good_len hgood
              have hstep := step_field (st := stOf pre) hsh hhead hco hna
              have HSt := Lib.hid hstep
              have HSH := Lib.hid hsh
              have HCO := Lib.hid hco; have HNA := Lib.hid hna; clear hco hhead hna hsh hstep
              by_cases hlong : 998 < p.size
              all_goals first | (replace hWa := hWa hlong; clear hWb) | (obtain rfl := hWb hlong; clear hWa hWb)
              all_goals
                gi_wp2_with (first | (refine ⟨trivial, ?_⟩; gi_at_call 22; refine (CallsIn.inRound l (callsIn_wide.2 (cut_byte_yes 58 p _ hm1 (by omega) k HCO.out))).mono ?_; rintro e w2 ⟨a, b, rfl, hak, hbk, hal, hbl, hbw⟩; have haz : a.size ≤ maxLen := (by unfold maxLen; omega); have HAK := Lib.hid hak; clear hak; have hl2 : Boxed w2 n0 23 v := (hbw.block _ HL.out.lt).trans HL.out; have hb2 : Boxed w2 (n0 + 1) 3 (.int .i64 0) := (hbw.block _ HBB.out.lt).trans HBB.out; have he2 : Boxed w2 (n0 + 1 + 1) 24 (.int .i64 (if ((stOf pre).2 || decide (998 < p.data.toList.length)) = true then 6 else 0)) := (hbw.block _ HE.out.lt).trans HE.out; have hcl2 := Boxed.cell hl2; have hfl2 := Boxed.frozen hl2; have hcb2 := Boxed.cell hb2; have hfb2 := Boxed.frozen hb2; have hce2 := Boxed.cell he2; have hfe2 := Boxed.frozen he2; have HL2 := Lib.hid hl2; have HB2 := Lib.hid hb2; have HE2 := Lib.hid he2; clear hl2 hb2 he2; have hrow2 := own_below hrow1 hbw; have hs2 : Boxed w2 (n0 + 1 + 1 + 1) 9 (.string s) := (hbw.block _ HS.out.lt).trans HS.out; have HS2 := Lib.hid hs2; clear hs2; have hw2n : n0 ≤ w2.heap.size := (by have := hbw.size; omega)) | (refine ⟨trivial, ?_⟩; gi_at_call 23; refine (CallsIn.inRound l (callsIn_wide.2 (named_of a true (by rw [hal.out]; exact HNA.out) _ haz))).mono ?_; rintro e w3 ⟨rfl, rfl⟩) | (refine ⟨trivial, ?_⟩; gi_at_call 21; refine (CallsIn.inRound l (callsIn_wide.2 (shown_of p true HSH.out _ hpm))).mono ?_; rintro e w3 ⟨rfl, rfl⟩) | (gi_at_builtin; refine wpListIn_append_own _ rfl _ _ 23 rfl n0 46 i0 _ 2 32 Tryd.underlying23 hi0 hz0 hz1 hz2 rfl (by decide) _ _ _ rfl (hrow2.alloc _) ⟨w2.heap.size, 0, none⟩ 1 1 [.string a, .string b] rfl rfl (cell_two_new _ _ _ _) (by simp [Value.oneCell']) (by unfold maxLen; omega) (by omega) (by simp; omega) ?_; intro v3 w3 hown3 hgr3 _; obtain ⟨g3, cap3, rfl⟩ := ownsRow_succ hown3; have hap := Boxed.appended HL2.out (by decide) hrow2 hw2n (Nat.le_refl _) hown3 hgr3; have hc3 := hap.1.cell; have hf3 := hap.1.frozen; clear hap))
                exact field_more hp HL2.out HB2.out HE2.out HS2.out (hB1.trans (hbw.mono (Nat.le_trans hwn hBs))) (hk1.trans (keeps_below hbw)) (keepsTwo_t hkp1 (keepsTwo_below HS.out.lt hm1.lt hbw)) hgood HNE.out HSt.out hal.out hbl.out hrow2 hw2n hmlt hown3 hgr3
      · rw [hbl] at hhead
        have hb2 := blank_yes _ hbl
        clear hbl
        rcases hFe : (stOf pre).1.reverse with _ | ⟨q, R⟩
        · have hF : (stOf pre).1 = [] := by simpa using hFe
          have HSt := Lib.hid (step_blank_nil (l := p.data.toList) hhead hF)
          have hz : (stOf pre).1.length = 0 := by rw [hF]; rfl
          clear hFe hF hhead
          rw [hz] at hrow1
          clear hz
          have hv : ∃ a cap, v = .slice a 0 cap := by
            rcases row_form hrow1 with ⟨h, _⟩ | ⟨g, cap, h, _⟩
            · exact ⟨_, _, h⟩
            · exact ⟨_, _, h⟩
          obtain ⟨a, cap, rfl⟩ := hv
          clear hrow1
          by_cases hlong : 998 < p.size
          all_goals first | (replace hWa := hWa hlong; clear hWb) | (obtain rfl := hWb hlong; clear hWa hWb)
          all_goals rcases hb2 with q1 | ⟨q1, q2⟩
          all_goals
            gi_wp2
            refine ⟨trivial, ?_⟩
            gi_wp2
            exact form_out (x := ⟨(p, at_), hp⟩) HL.out HBB.out HE.out hB1 hk1 hgood HNE.out HSt.out
        · have hF : (stOf pre).1 = R.reverse ++ [q] := by rw [← List.reverse_reverse (stOf pre).1, hFe, List.reverse_cons]
          obtain ⟨F0, hF0⟩ : ∃ F0, R.reverse = F0 := ⟨_, rfl⟩
          rw [hF0] at hF
          have hlen1 : (stOf pre).1.length = F0.length + 1 := by rw [hF]; simp
          rw [hlen1, hF, fldCells_snoc] at hrow1
          obtain ⟨m, hm0⟩ : ∃ m, F0.length = m := ⟨_, rfl⟩
          rw [hm0] at hrow1
          obtain ⟨g, cap, rfl, hg0, hglt, hcap⟩ : ∃ g cap, v = .slice (some ⟨g, 0, none⟩) (m + 1) cap ∧ n0 ≤ g ∧ g < W1.heap.size ∧ m + 1 ≤ cap := by
            rcases row_form hrow1 with ⟨_, h⟩ | ⟨g, cap, h⟩
            · omega
            · exact ⟨g, cap, h⟩
          have hcell := hrow1.cellAt (m * 2 + 1) (by omega)
          rw [List.getElem?_append_right (by rw [fldCells_len]; omega), fldCells_len, hm0, show m * 2 + 1 - m * 2 = 1 by omega] at hcell
          have hfro := hrow1.frozenAt (m * 2 + 1)
          have hcell' : W1.cell? ⟨g, m * 2 + 1, none⟩ = some (.string ⟨q.2.toArray⟩) := hcell
          have HROW := Lib.hid hrow1
          have HF := Lib.hid hF
          have hml : m ≤ 1000001 := by have := good_len hgood; omega
          have HM := Lib.hid hm0
          have hqs : (ByteArray.mk q.2.toArray).size ≤ 200000000 := by
            have := good_vals hgood q (by rw [hF]; simp)
            show q.2.length ≤ _; omega
          clear hcell hF hFe hF0 hlen1 hrow1 hm0
          rcases hsh : p.data.toList.all shownC with _ | _
          · have HSt := Lib.hid (step_hid (st := stOf pre) hsh)
            have HSH := Lib.hid hsh; clear hsh hhead
            by_cases hlong : 998 < p.size
            all_goals first | (replace hWa := hWa hlong; clear hWb) | (obtain rfl := hWb hlong; clear hWa hWb)
            all_goals rcases hb2 with q1 | ⟨q1, q2⟩
            all_goals
              gi_wp2_with (refine ⟨trivial, ?_⟩; gi_at_call 21; refine (CallsIn.inRound l (callsIn_wide.2 (shown_of p false HSH.out _ hpm))).mono ?_; rintro e w2 ⟨rfl, rfl⟩)
              exact form_out (x := ⟨(p, at_), hp⟩) HL.out HBB.out HE.out hB1 hk1 hgood HNE.out HSt.out
          · have hstep := step_blank (st := stOf pre) (l := p.data.toList) hsh hhead HF.out
            have HSt := Lib.hid hstep
            have HSH := Lib.hid hsh; clear hsh hhead hstep
            by_cases hlong : 998 < p.size
            all_goals first | (replace hWa := hWa hlong; clear hWb) | (obtain rfl := hWb hlong; clear hWa hWb)
            all_goals rcases hb2 with q1 | ⟨q1, q2⟩
            all_goals
              gi_wp2_with (refine ⟨trivial, ?_⟩; gi_at_call 21; refine (CallsIn.inRound l (callsIn_wide.2 (shown_of p true HSH.out _ hpm))).mono ?_; rintro e w2 ⟨rfl, rfl⟩)
              exact last_more hp HL.out HBB.out HE.out HS.out hB1 hk1 hkp1 hgood HNE.out HSt.out HM.out hg0 HROW.out hmlt
  case done =>
    rintro D xs W hD hS ⟨⟨⟨⟨v, hbl, hrow, _⟩, hbb, hbe, hbs⟩, hgood⟩, hB⟩ hK
    have hform : splitL s.data.toList = .form := by
      unfold splitL
      rw [← hS, ← List.append_nil (xs.map LineAt.pair), run_good hgood]; rfl
    have hcl := hbl.cell; have hcb := hbb.cell; have hce := hbe.cell
    have hfl := hbl.frozen; have hfb := hbb.frozen; have hfe := hbe.frozen
    have HK := Lib.hid hK; have HFo := Lib.hid hform
    have HL := Lib.hid hbl; have HBB := Lib.hid hbb; have HE := Lib.hid hbe; clear hbl hbb hbe hbs hK hform hS
    go_wp2
    rw [HFo.out]
    have hK2 := (((KeepsOthers.setCell W ⟨n0, 0, none⟩ (.slice none 0 0)).trans (KeepsOthers.setCell _ ⟨n0 + 1, 0, none⟩ (.int .i64 0))).trans (KeepsOthers.setCell _ ⟨n0 + 1 + 1, 0, none⟩ (.int .i64 7))).same D _ HK.out rfl
    have h1 := (((HL.out.set (.slice none 0 0)).other (show n0 ≠ n0 + 1 by omega) (.int .i64 0)).other (show n0 ≠ n0 + 1 + 1 by omega) (.int .i64 7))
    have h2 := (((HBB.out.other (show n0 + 1 ≠ n0 by omega) (.slice none 0 0)).set (.int .i64 0)).other (show n0 + 1 ≠ n0 + 1 + 1 by omega) (.int .i64 7))
    have h3 := (((HE.out.other (show n0 + 1 + 1 ≠ n0 by omega) (.slice none 0 0)).other (show n0 + 1 + 1 ≠ n0 + 1 by omega) (.int .i64 0)).set (.int .i64 7))
    have h4 := ((hB.setCell (p := ⟨n0, 0, none⟩) (Nat.le_refl _) (.slice none 0 0)).setCell (p := ⟨n0 + 1, 0, none⟩) (by simp) (.int .i64 0)).setCell (p := ⟨n0 + 1 + 1, 0, none⟩) (by simp; omega) (.int .i64 7)
    refine ⟨by simp, .inl ⟨_, _, rfl, run_takeDeferred hK2, ?_⟩⟩
    have hd0 : D ≠ n0 := by omega
    have hd1 : D ≠ n0 + 1 := by omega
    have hd2 : D ≠ n0 + 1 + 1 := by omega
    have c1 := (putObj_box hd0 h1 (.deferred none)).cell; have c2 := (putObj_box hd1 h2 (.deferred none)).cell; have c3 := (putObj_box hd2 h3 (.deferred none)).cell
    exact ⟨_, results_box c1 c2 c3, rfl, by rw [hn0]; exact h4.trans (belowK_b (w := w) hwn _ D _ _ (by omega) hK2 rfl rfl)⟩
  case stop =>
    rintro D c pre W hD hSp hout hK
    rcases hout with ⟨⟨⟨hbl, hbb, hbe⟩, rfl, pre0, x, rfl, hg, hx, hst⟩, hB⟩ | ⟨⟨⟨⟨v, hbl, hrow, _⟩, hbb, hbe⟩, rfl, pre0, x, rfl, hg, hx⟩, hB⟩
    · have hform : splitL s.data.toList = .form := by
        obtain ⟨r, hr⟩ := hSp
        unfold splitL
        rw [← hr, List.map_append, List.append_assoc, run_good hg, List.map_singleton]
        show (match runHead ((x.1.1.data.toList, x.1.2) :: r) _ with | none => Split.form | some (_, true, _) => .long | some (f, false, b) => .ok (f.map fun p : Fld => (p.1, trimB p.2)) b) = _
        rw [runHead, if_neg hx, hst]
      have hcl := hbl.cell; have hcb := hbb.cell; have hce := hbe.cell
      have hfl := hbl.frozen; have hfb := hbb.frozen; have hfe := hbe.frozen
      have HK := Lib.hid hK; have HFo := Lib.hid hform
      have HL := Lib.hid hbl; have HBB := Lib.hid hbb; have HE := Lib.hid hbe; clear hbl hbb hbe hK hform
      gi_wp2
      rw [HFo.out]
      refine ⟨by simp, .inl ⟨_, _, rfl, run_takeDeferred HK.out, ?_⟩⟩
      have hd0 : D ≠ n0 := by omega
      have hd1 : D ≠ n0 + 1 := by omega
      have hd2 : D ≠ n0 + 1 + 1 := by omega
      have c1 := (putObj_box hd0 HL.out (.deferred none)).cell; have c2 := (putObj_box hd1 HBB.out (.deferred none)).cell; have c3 := (putObj_box hd2 HE.out (.deferred none)).cell
      exact ⟨_, results_box c1 c2 c3, rfl, by rw [hn0]; exact hB.trans (belowK_b (w := w) hwn _ D _ _ (by omega) HK.out rfl rfl)⟩
    · rw [List.dropLast_concat] at hrow hbe
      rw [List.getLast?_concat] at hbb
      have hrun : runHead (itL s.data.toList 0) ([], false) = some ((stOf pre0).1, (stOf pre0).2, x.1.2) := by
        obtain ⟨r, hr⟩ := hSp
        rw [← hr, List.map_append, List.append_assoc, run_good hg, List.map_singleton]
        show runHead ((x.1.1.data.toList, x.1.2) :: r) _ = _
        rw [runHead, if_pos hx]
      have hat : 2 ≤ x.1.2 := by
        obtain ⟨r, hr⟩ := hSp
        exact itL_two _ _ _ (Nat.le_refl _) (x.1.1.data.toList, x.1.2) (by rw [← hr, List.map_append, List.map_singleton]; simp [LineAt.pair])
      have hgl := good_len hg
      have hgv := good_vals hg
      have hpl : pre0.length ≤ 10000 := by
        obtain ⟨r, hr⟩ := hSp
        have h1 := itL_count _ s.data.toList 0 (Nat.le_refl _)
        rw [← hr, List.length_append, List.length_map, List.length_append, show s.data.toList.length = s.size from rfl] at h1; omega
      generalize hst : stOf pre0 = st at *
      obtain ⟨F, L⟩ := st
      obtain ⟨⟨p, at_⟩, hp⟩ := x
      dsimp only at hrow hbe hbb hrun hat hgl hgv hp
      replace hbb : Boxed W (n0 + 1) 3 (.int .i64 at_) := hbb
      have hcl := hbl.cell; have hcb := hbb.cell; have hce := hbe.cell
      have hfl := hbl.frozen; have hfb := hbb.frozen; have hfe := hbe.frozen
      have HK := Lib.hid hK
      have HL := Lib.hid hbl; have HBB := Lib.hid hbb; have HR := Lib.hid hrun; clear hbl hbb hK hrun hst hx hg hSp hce hfe
      cases L
      · replace hbe : Boxed W (n0 + 1 + 1) 24 (.int .i64 0) := hbe
        have hce := hbe.cell; have hfe := hbe.frozen
        have HE := Lib.hid hbe; clear hbe
        have hform : splitL s.data.toList = .ok (F.map fun p => (p.1, trimB p.2)) at_ := by unfold splitL; rw [HR.out]
        have HFo := Lib.hid hform; clear hform
        obtain ⟨a0, cap0, rfl, ha0⟩ : ∃ a0 cap0, v = .slice a0 F.length cap0 ∧ (F.length = 0 ∨ ∃ g, a0 = some ⟨g, 0, none⟩ ∧ n0 ≤ g ∧ F.length ≤ cap0) := by
          rcases row_form hrow with ⟨h, h0⟩ | ⟨g, cap, h, h1, _, h2⟩
          · exact ⟨none, 0, by rw [h, h0], .inl h0⟩
          · exact ⟨_, _, h, .inr ⟨g, rfl, h1, h2⟩⟩
        obtain ⟨n, hn⟩ : ∃ n, F.length = n := ⟨_, rfl⟩
        rw [hn] at HL hcl hrow ha0 hgl
        have HN := Lib.hid hn; have HA := Lib.hid ha0; clear hn ha0
        gi_wp2
        go_wp2
        go_loopw [10, 79] (fun _ i wr => ∃ k : Nat, i = .int .i64 k ∧ k ≤ n ∧ Hid (Boxed wr n0 23 (.slice a0 n cap0)) ∧ Hid (Boxed wr (n0 + 1) 3 (.int .i64 at_)) ∧ Hid (Boxed wr (n0 + 1 + 1) 24 (.int .i64 0)) ∧ Hid (wr.ownsRow n0 46 2 (.slice a0 n cap0) n (fldCells ((F.take k).map (fun p => (p.1, trimB p.2)) ++ F.drop k))) ∧ Below n0 w wr ∧ Hid (wr.heap[D]? = some (.deferred (some []))))
          (fun _ i _ => n - (intOf i).toNat)
        case atStart => exact ⟨0, rfl, Nat.zero_le _, HL, HBB, HE, Lib.hid (by simpa using hrow), hB, HK⟩
        case round =>
          clear hcl hcb hce hfl hfb hfe hrow HL HBB HE hB
          obtain ⟨k, rfl, hk, HL, HBB, HE, HROW, hB, HKr⟩ := hrel
          have hcl := HL.out.cell; have hcb := HBB.out.cell; have hce := HE.out.cell
          have hfl := HL.out.frozen; have hfb := HBB.out.frozen; have hfe := HE.out.frozen
          by_cases hlt : k < n
          · obtain ⟨g, rfl, hg0, hcap⟩ : ∃ g, a0 = some ⟨g, 0, none⟩ ∧ n0 ≤ g ∧ n ≤ cap0 := HA.out.resolve_left (by omega)
            have hkF : k < F.length := by rw [HN.out]; exact hlt
            obtain ⟨q, hq⟩ : ∃ q, F[k] = q := ⟨_, rfl⟩
            have hmix : fldCells ((F.take k).map (fun p => (p.1, trimB p.2)) ++ F.drop k) = fldCells ((F.take k).map (fun p => (p.1, trimB p.2))) ++ ([.string ⟨q.1.toArray⟩, .string ⟨q.2.toArray⟩] ++ fldCells (F.drop (k + 1))) := by
              rw [List.drop_eq_getElem_cons hkF, hq]; simp [fldCells]
            have hml : (fldCells ((F.take k).map (fun p => (p.1, trimB p.2)))).length = k * 2 := by rw [fldCells_len, List.length_map, List.length_take]; omega
            have hrow := HROW.out
            rw [hmix] at hrow
            have hcell := hrow.cellAt (k * 2 + 1) (by omega)
            rw [List.getElem?_append_right (by omega), hml, show k * 2 + 1 - k * 2 = 1 by omega] at hcell
            have hcell' : wr.cell? ⟨g, k * 2 + 1, none⟩ = some (.string ⟨q.2.toArray⟩) := hcell
            have hfro := hrow.frozenAt (k * 2 + 1)
            have HRW := Lib.hid hrow
            have hqv := hgv q (by rw [← hq]; exact List.getElem_mem _)
            have hqs : (ByteArray.mk q.2.toArray).size ≤ 1000000000 := by show q.2.length ≤ _; omega
            have hne1 : n0 ≠ g := fun e => HL.out.not_row (by decide) HROW.out (by rw [e]; rfl)
            have hne2 : n0 + 1 ≠ g := fun e => HBB.out.not_row (by decide) HROW.out (by rw [e]; rfl)
            have hne3 : n0 + 1 + 1 ≠ g := fun e => HE.out.not_row (by decide) HROW.out (by rw [e]; rfl)
            have HML := Lib.hid hml; have HKF := Lib.hid hkF; have HQ := Lib.hid hq
            clear hcell hrow hmix hml hq
            have hki : (k : Int) < (n : Int) := by omega
            go_wp2
            have hglt : g < wr.heap.size := World.block_lt_of_cell? wr _ hcell'
            have hclq := fun d os => cell_regrown hcl d os
            have hcgq := fun d os => cell_regrown hcell' d os
            (refine region_quiet_tail_below 8 (by kernel_rfl) (by kernel_rfl) ?_; simp only [List.take_succ_cons, List.take_zero]; (repeat (first | go_big_quiet_skip | (go_big_quiet_want; go_big_quiet_op; first | go_big_quiet_on | (apply Exists.intro; refine ⟨fun _ => ?_, ?_⟩; (· (go_at_call 24; exact ret_quiet (trim_octet _ · hqs))); go_big_quiet_on)))); refine wpQuiet_nil ?_; intro wq hbq; simp only [List.drop_succ_cons, List.drop_zero])
            have hcg5 := (hbq.cell (p := ⟨g, k * 2 + 1, none⟩) hglt).trans hcell'
            have hfg5 := (hbq.frozen (p := ⟨g, k * 2 + 1, none⟩) hglt).trans hfro
            have hL5 := (hbq.block _ HL.out.lt).trans HL.out
            have hB5 := (hbq.block _ HBB.out.lt).trans HBB.out
            have hE5 := (hbq.block _ HE.out.lt).trans HE.out
            have hK5 := (hbq.block D (Array.getElem?_eq_some_iff.1 HKr.out).1).trans HKr.out
            have hR5 := (own_below HRW.out hbq).stored (k * 2 + 1) (.string ⟨(trimB q.2).toArray⟩)
            have hR6 := Lib.hid hR5.1
            have HL5 := Lib.hid hL5; have HB5 := Lib.hid hB5; have HE5 := Lib.hid hE5; have HK5 := Lib.hid hK5
            have hbel := (hB.trans (hbq.mono (Nat.le_trans hwn hB.size))).setCell (p := ⟨g, k * 2 + 1, none⟩) hg0 (.string ⟨(trimB q.2).toArray⟩)
            have HBel := Lib.hid hbel
            clear hclq hcgq hL5 hB5 hE5 hK5 hR5 hbel hcl hcb hce hfl hfb hfe hcell' hfro
            go_wp2
            go_roundw
            case rel =>
              refine ⟨k + 1, by go_num, by omega, Lib.hid ((Below.heap_setCell _ _ _ _ hne1).trans HL5.out), Lib.hid ((Below.heap_setCell _ _ _ _ hne2).trans HB5.out), Lib.hid ((Below.heap_setCell _ _ _ _ hne3).trans HE5.out), Lib.hid ?_, HBel.out, Lib.hid ((Below.heap_setCell _ _ _ _ ?_).trans HK5.out)⟩
              · have h := hR6.out
                have e : (fldCells ((F.take k).map (fun p : Fld => (p.1, trimB p.2))) ++ ([Value.string ⟨q.1.toArray⟩, Value.string ⟨q.2.toArray⟩] ++ fldCells (F.drop (k + 1)))).set (k * 2 + 1) (Value.string ⟨(trimB q.2).toArray⟩) = fldCells ((F.take (k + 1)).map (fun p : Fld => (p.1, trimB p.2)) ++ F.drop (k + 1)) := by
                  rw [List.set_append_right _ _ (by rw [HML.out]; omega), HML.out, show k * 2 + 1 - k * 2 = 1 by omega, List.take_succ_eq_append_getElem HKF.out, HQ.out]
                  simp [fldCells]
                rw [e] at h
                exact h
              · intro e
                subst e
                have h := HKr.out
                have h2 := HRW.out
                rcases h2.2 with ⟨h', _⟩ | ⟨g', cap', cur, h', _, hh, _⟩
                · simp at h'
                · simp only [Value.slice.injEq, Option.some.injEq, Addr.mk.injEq, and_true, true_and] at h'
                  rw [← h'.1, h] at hh; cases hh
            case measure => simp [intOf]; omega
          · obtain rfl : k = n := by omega
            go_wp2
            go_region
            all_goals
              go_wp2
              rw [HFo.out]
              have hK2 := (((KeepsOthers.setCell wr ⟨n0, 0, none⟩ (.slice a0 k cap0)).trans (KeepsOthers.setCell _ ⟨n0 + 1, 0, none⟩ (.int .i64 at_))).trans (KeepsOthers.setCell _ ⟨n0 + 1 + 1, 0, none⟩ (.int .i64 0))).same D _ HKr.out rfl
              have h1 := (((HL.out.set (.slice a0 k cap0)).other (show n0 ≠ n0 + 1 by omega) (.int .i64 at_)).other (show n0 ≠ n0 + 1 + 1 by omega) (.int .i64 0))
              have h2 := (((HBB.out.other (show n0 + 1 ≠ n0 by omega) (.slice a0 k cap0)).set (.int .i64 at_)).other (show n0 + 1 ≠ n0 + 1 + 1 by omega) (.int .i64 0))
              have h3 := (((HE.out.other (show n0 + 1 + 1 ≠ n0 by omega) (.slice a0 k cap0)).other (show n0 + 1 + 1 ≠ n0 + 1 by omega) (.int .i64 at_)).set (.int .i64 0))
              have h4 := ((hB.setCell (p := ⟨n0, 0, none⟩) (Nat.le_refl _) (.slice a0 k cap0)).setCell (p := ⟨n0 + 1, 0, none⟩) (by simp) (.int .i64 at_)).setCell (p := ⟨n0 + 1 + 1, 0, none⟩) (by simp; omega) (.int .i64 0)
              have hr1 := row_set HL.out (by decide) HROW.out (.slice a0 k cap0)
              have hr2 := row_set (HBB.out.other (show n0 + 1 ≠ n0 by omega) (.slice a0 k cap0)) (by decide) hr1 (.int .i64 at_)
              have hr3 := row_set ((HE.out.other (show n0 + 1 + 1 ≠ n0 by omega) (.slice a0 k cap0)).other (show n0 + 1 + 1 ≠ n0 + 1 by omega) (.int .i64 at_)) (by decide) hr2 (.int .i64 0)
              have hr4 := ownsRow_putObj hr3 (.deferred none) hK2 rfl
              rw [List.take_of_length_le (by rw [HN.out]; exact Nat.le_refl _), List.drop_of_length_le (by rw [HN.out]; exact Nat.le_refl _), List.append_nil] at hr4
              refine ⟨by simp, .inl ⟨_, _, rfl, run_takeDeferred hK2, ?_⟩⟩
              have hd0 : D ≠ n0 := by omega
              have hd1 : D ≠ n0 + 1 := by omega
              have hd2 : D ≠ n0 + 1 + 1 := by omega
              have c1 := (putObj_box hd0 h1 (.deferred none)).cell; have c2 := (putObj_box hd1 h2 (.deferred none)).cell; have c3 := (putObj_box hd2 h3 (.deferred none)).cell
              exact ⟨_, results_box c1 c2 c3, _, rfl, by rw [hn0, List.length_map, HN.out]; exact hr4, by rw [hn0]; exact (h4.drew).trans (belowK_b (w := w) hwn _ D _ _ (by omega) hK2 rfl rfl)⟩
      · replace hbe : Boxed W (n0 + 1 + 1) 24 (.int .i64 6) := hbe
        have hce := hbe.cell; have hfe := hbe.frozen
        have HE := Lib.hid hbe; clear hbe
        have hform : splitL s.data.toList = .long := by unfold splitL; rw [HR.out]
        have HFo := Lib.hid hform; clear hform
        gi_wp2
        go_wp2
        go_region
        all_goals
          go_wp2
          rw [HFo.out]
          have hK2 := (((KeepsOthers.setCell W ⟨n0, 0, none⟩ (.slice none 0 0)).trans (KeepsOthers.setCell _ ⟨n0 + 1, 0, none⟩ (.int .i64 0))).trans (KeepsOthers.setCell _ ⟨n0 + 1 + 1, 0, none⟩ (.int .i64 6))).same D _ HK.out rfl
          have h1 := (((HL.out.set (.slice none 0 0)).other (show n0 ≠ n0 + 1 by omega) (.int .i64 0)).other (show n0 ≠ n0 + 1 + 1 by omega) (.int .i64 6))
          have h2 := (((HBB.out.other (show n0 + 1 ≠ n0 by omega) (.slice none 0 0)).set (.int .i64 0)).other (show n0 + 1 ≠ n0 + 1 + 1 by omega) (.int .i64 6))
          have h3 := (((HE.out.other (show n0 + 1 + 1 ≠ n0 by omega) (.slice none 0 0)).other (show n0 + 1 + 1 ≠ n0 + 1 by omega) (.int .i64 0)).set (.int .i64 6))
          have h4 := ((hB.setCell (p := ⟨n0, 0, none⟩) (Nat.le_refl _) (.slice none 0 0)).setCell (p := ⟨n0 + 1, 0, none⟩) (by simp) (.int .i64 0)).setCell (p := ⟨n0 + 1 + 1, 0, none⟩) (by simp; omega) (.int .i64 6)
          refine ⟨by simp, .inl ⟨_, _, rfl, run_takeDeferred hK2, ?_⟩⟩
          have hd0 : D ≠ n0 := by omega
          have hd1 : D ≠ n0 + 1 := by omega
          have hd2 : D ≠ n0 + 1 + 1 := by omega
          have c1 := (putObj_box hd0 h1 (.deferred none)).cell; have c2 := (putObj_box hd1 h2 (.deferred none)).cell; have c3 := (putObj_box hd2 h3 (.deferred none)).cell
          exact ⟨_, results_box c1 c2 c3, rfl, by rw [hn0]; exact (h4.drew).trans (belowK_b (w := w) hwn _ D _ _ (by omega) hK2 rfl rfl)⟩
end Go.Proofs.YtdfflbpifpoogaaDoor
