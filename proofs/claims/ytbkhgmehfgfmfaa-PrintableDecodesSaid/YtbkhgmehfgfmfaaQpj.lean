/- qp.Encode: a range over the pieces. -/
import Derived.Test.YtbkhgmehfgfmfaaQpi
set_option linter.unusedVariables false
namespace Nun
/-- What a piece does to the line's length and to what is written. -/
def est (st : Nat × List UInt8) (p : List UInt8) : Nat × List UInt8 :=
  if p = [] then (0, st.2 ++ [13, 10]) else if p.length ≤ 75 - st.1 then (st.1 + p.length, st.2 ++ p) else (p.length, st.2 ++ [61, 13, 10] ++ p)
def estL (ps : List (List UInt8)) : Nat × List UInt8 := ps.foldl est (0, [])
theorem estL_snoc (ps : List (List UInt8)) (p : List UInt8) : estL (ps ++ [p]) = est (estL ps) p := by simp [estL]
theorem est_bd {st : Nat × List UInt8} {p : List UInt8} {n : Nat} (hp : p.length ≤ 3) (h : st.1 ≤ 75 ∧ st.2.length ≤ 6 * n) : (est st p).1 ≤ 75 ∧ (est st p).2.length ≤ 6 * (n + 1) := by
  unfold est
  split
  · simp; omega
  · split
    · simp; omega
    · simp; omega
theorem foldl_bd (ps : List Short) : ∀ (st : Nat × List UInt8) (n : Nat), (st.1 ≤ 75 ∧ st.2.length ≤ 6 * n) → ((ps.map Short.bytes).foldl est st).1 ≤ 75 ∧ ((ps.map Short.bytes).foldl est st).2.length ≤ 6 * (n + ps.length) := by
  induction ps with
  | nil => intro st n h; simpa using h
  | cons x l ih =>
    intro st n h
    have := ih (est st x.bytes) (n + 1) (est_bd x.2 h)
    simp only [List.map_cons, List.foldl_cons, List.length_cons]
    rw [show n + (l.length + 1) = n + 1 + l.length by omega]
    exact this
theorem estL_bd (ps : List Short) : (estL (ps.map Short.bytes)).1 ≤ 75 ∧ (estL (ps.map Short.bytes)).2.length ≤ 6 * ps.length := by
  have := foldl_bd ps (0, []) 0 (by simp)
  simpa [estL] using this
theorem estL_enc (s : List UInt8) : ∀ k, k ≤ s.length → encL 0 s = (estL ((List.range k).map (pcAt s))).2 ++ encL (estL ((List.range k).map (pcAt s))).1 (s.drop k) ∧ (estL ((List.range k).map (pcAt s))).1 ≤ 75 := by
  intro k
  induction k with
  | zero => intro _; simp [estL]
  | succ k ih =>
    intro hk
    obtain ⟨h1, h2⟩ := ih (by omega)
    rw [List.range_succ, List.map_append, List.map_singleton, estL_snoc]
    generalize estL ((List.range k).map (pcAt s)) = st at h1 h2
    have hlt : k < s.length := by omega
    unfold pcAt
    rw [List.getElem?_eq_getElem hlt]
    simp only
    by_cases h10 : s[k] = 10
    · rw [if_pos h10]
      unfold est
      rw [if_pos rfl, h1, encL_nl hlt h10]; simp
    · rw [if_neg h10]
      have hp := piece_len s[k] (s.drop (k + 1))
      generalize hpp : piece s[k] (s.drop (k + 1)) = p at hp
      unfold est
      rw [if_neg (by intro h; rw [h] at hp; simp at hp)]
      by_cases hl : p.length ≤ 75 - st.1
      · rw [if_pos hl, h1, encL_on hlt h10 hpp (by omega)]; simp; omega
      · rw [if_neg hl, h1, encL_wrap hlt h10 hpp (by omega)]; simp; omega
theorem estL_all (s : List UInt8) : (estL ((List.range s.length).map (pcAt s))).2 = encL 0 s := by
  have := (estL_enc s s.length (Nat.le_refl _)).1
  rw [List.drop_of_length_le (Nat.le_refl _)] at this
  simpa [encL] using this.symm
end Nun
namespace Go.Proofs.Ytbkhgmehfgfmfaa
open Go.RowKit Nun
attribute [local go_sem] Oper.semAt_some
theorem Bd.own {β : Type} (B b : Nat) (f : β → List UInt8) : Own (fun (s : β) W => Bd B b (f s) W) := by
  intro s W W' row h hg hr
  have kk : ∀ p, Lib.BuilderAtF 41 5 B b p (Lib.byteCells (f s)) W → Lib.BuilderAtF 41 5 B b p (Lib.byteCells (f s)) W' := by
    rintro p ⟨hB, v, hb, hown, hne⟩
    have ne : ∀ g o, W.heap[g]? = some o → o.isCells = true → some g ≠ row := by
      intro g o hgo hoc e
      obtain ⟨o', ho', hc'⟩ := hr g e.symm
      rw [hgo] at ho'; cases ho'; rw [hoc] at hc'; cases hc'
    refine ⟨hB, v, (hg.block b (Array.getElem?_eq_some_iff.1 hb).1 (ne b _ hb rfl)).trans hb, hown.kept hg ?_, hne⟩
    rcases hv : v.ownBlock with _ | g
    · exact .inl rfl
    · obtain ⟨c, fz, hgg⟩ := Lib.ownsRowF_kind hown g hv
      exact .inr (ne g _ hgg rfl)
  rcases h with h | h
  · exact .inl (kk _ h)
  · exact .inr (kk _ h)
theorem Bd.set {B b k : Nat} {l : List UInt8} {w : World} {t : TypeId} {v : Value} (v' : Value) (h : Bd B b l w) (hbx : Boxed w k t v) (hkb : k ≠ b) (ht : t ≠ 5) : Bd B b l (w.setCell ⟨k, 0, none⟩ v') := by
  have kk : ∀ p, Lib.BuilderAtF 41 5 B b p (Lib.byteCells l) w → Lib.BuilderAtF 41 5 B b p (Lib.byteCells l) (w.setCell ⟨k, 0, none⟩ v') := by
    rintro p ⟨hB, v, hb, hown, hne⟩
    exact ⟨hB, v, (Below.heap_setCell _ _ _ _ (fun e => hkb e.symm)).trans hb, hown.kept (row := some k) ⟨rfl, rfl, rfl, by simp [World.setCell], fun i _ hi => Below.heap_setCell _ _ _ _ (fun e => hi (by simp [e]))⟩ (.inr (Lib.ownBlock_neF hown hbx ht)), hne⟩
  rcases h with h | h
  · exact .inl (kk _ h)
  · exact .inr (kk _ h)
/-- What writing to a builder leaves of a box. -/
theorem boxed_kept {e b k : Nat} {t : TypeId} {v : Value} {w w' : World} (h : Lib.OthersKept e (some b) w w') (hb : Boxed w k t v) (hkb : k ≠ b) (ht : t ≠ e) : Boxed w' k t v :=
  h k _ hb (fun e => hkb (by cases e; rfl)) (fun c fz e => by cases e; exact ht rfl)
theorem Bd.isCells {B b : Nat} {l : List UInt8} {w : World} (h : Bd B b l w) : ∃ o : Obj, w.heap[b]? = some o ∧ o.isCells = true := by
  rcases h with ⟨_, v, hb, _⟩ | ⟨_, v, hb, _⟩ <;> exact ⟨_, hb, rfl⟩
set_option maxHeartbeats 400000 in
theorem pieces_any (s : ByteArray) (w : World) : Calls Try.prog 31 #[.string s] w fun e w' => e = .returned (.func (.func 44) #[] #[.pointer (some ⟨w.heap.size, 0, none⟩)]) ∧ w' = w.alloc (.cells #[.string s] 9) := by
  go_enter Try.func31, Try.ntmps31
  go_wp2
  go_ret
  exact ⟨rfl, rfl⟩
set_option maxHeartbeats 2000000 in
set_option maxRecDepth 100000 in
theorem enc_qp (s : ByteArray) (w : World) (hs : s.size ≤ 1000000) : Calls Try.prog 20 #[.string s] w (Ret (.string ⟨(encL 0 s.data.toList).toArray⟩) w) := by
  refine (callsIn_wide (n := 3)).1 ?_
  refine callsIn_of_wp_marks Try.func20 rfl trivial ?_ rfl
  simp only [Try.ntmps20, List.size_toArray, List.length_cons, List.length_nil, Nat.reduceAdd, Nat.reduceSub, Array.replicate_succ, Array.replicate_zero, List.push_toArray, List.append_toArray, List.nil_append, List.cons_append]
  gi_wp2_with (refine ⟨trivial, ?_⟩; gi_at_call 31; refine (callsIn_wide.2 (pieces_any _ _)).mono ?_; rintro e w' ⟨rfl, rfl⟩)
  have hB0 : Below w.heap.size w (((w.alloc (.cells #[.pointer none, .slice none 0 0] 41)).alloc (.cells #[.int .i64 0] 3)).alloc (.cells #[.string s] 9)) := (((Below.refl _ w).alloc (Nat.le_refl _) _).alloc (by simp) _).alloc (by simp; omega) _
  have hbd0 : Bd w.heap.size w.heap.size [] (((w.alloc (.cells #[.pointer none, .slice none 0 0] 41)).alloc (.cells #[.int .i64 0] 3)).alloc (.cells #[.string s] 9)) := ((Bd.fresh w).alloc _).alloc _
  have hl0 : Boxed (((w.alloc (.cells #[.pointer none, .slice none 0 0] 41)).alloc (.cells #[.int .i64 0] 3)).alloc (.cells #[.string s] 9)) (w.heap.size + 1) 3 (.int .i64 0) := by
    have := Boxed.new (w.alloc (.cells #[.pointer none, .slice none 0 0] 41)) 3 (.int .i64 0)
    rw [World.size_alloc] at this
    exact this.alloc _
  have hs0 : Boxed (((w.alloc (.cells #[.pointer none, .slice none 0 0] 41)).alloc (.cells #[.int .i64 0] 3)).alloc (.cells #[.string s] 9)) (w.heap.size + 1 + 1) 9 (.string s) := by
    have := Boxed.new ((w.alloc (.cells #[.pointer none, .slice none 0 0] 41)).alloc (.cells #[.int .i64 0] 3)) 9 (.string s)
    rw [World.size_alloc, World.size_alloc] at this
    exact this
  refine wpIn_rangeFunc_ownF rfl (by omega) (gf := 44) (lb := #[.pointer (some ⟨w.heap.size + 1 + 1, 0, none⟩)]) rfl trivial (enters_of Try.func44 (by kernel_rfl) rfl)
    (pieces_stops _ (by omega) s hs (w.heap.size + 1 + 1) _ hs0) keepsAt_t (keepsAt_b (by simp)) (Below.refl _ _) (fun _ => rfl)
    (fun pre W => (Bd w.heap.size w.heap.size (estL (pre.map Short.bytes)).2 W ∧ Boxed W (w.heap.size + 1) 3 (.int .i64 (estL (pre.map Short.bytes)).1) ∧ Boxed W (w.heap.size + 1 + 1) 9 (.string s)) ∧ Below w.heap.size w W)
    (fun _ _ _ => False)
    (OwnFrom.and (OwnFrom.and (Own.from (Bd.own _ _ _) _) (OwnFrom.and (Own.from (boxed_own _ _ _) _) (Own.from (boxed_own _ _ _) _))) (ownFrom_below (Nat.le_refl _) (by simp; omega)))
    (fun _ _ _ _ _ hs _ _ => hs)
    ⟨⟨hbd0, hl0, hs0⟩, hB0⟩
    (fun x => { tmps := #[.string s, undef, .string ⟨#[]⟩, .pointer (some ⟨w.heap.size, 0, none⟩), .pointer (some ⟨w.heap.size + 1, 0, none⟩), .string x.1, .string s,
        .func (.func 44) #[] #[.pointer (some ⟨w.heap.size + 1 + 1, 0, none⟩)], .string x.1, undef, undef, undef, undef, undef, undef, undef, undef, undef, undef, undef, undef, undef, undef, undef, undef], defers := [] }) ?assign ?body ?done ?stop
  case assign =>
    intro l x W K hK
    gi_wp2
    exact hK
  case body =>
    rintro l pre x W ⟨⟨hbd, hbx, hsx⟩, hB⟩ hlen
    have hbnd := estL_bd pre
    have hc := hbx.cell
    have hf := hbx.frozen
    have hst : estL ((pre ++ [x]).map Short.bytes) = est (estL (pre.map Short.bytes)) x.bytes := by rw [List.map_append, List.map_singleton, estL_snoc]
    generalize hst0 : estL (pre.map Short.bytes) = st at hbd hbx hbnd hc hst
    obtain ⟨line, out⟩ := st
    obtain ⟨hb1, hb2⟩ := hbnd
    dsimp only at hbd hbx hb1 hb2 hc
    have HBX := Lib.hid hbx; have HSX := Lib.hid hsx; have HST := Lib.hid hst; clear hbx hsx hst hst0
    obtain ⟨p, hp⟩ := x
    simp only [Short.bytes] at HST
    have hcl := hbd.isCells
    have HCL := Lib.hid hcl; clear hcl
    have hlen2 : p.data.toList.length = p.size := rfl
    have HL := Lib.hid hlen2; clear hlen2
    dsimp only
    by_cases he : p.data.toList = []
    · obtain rfl : p = ⟨#[]⟩ := by cases p with | mk d => cases d with | mk l => simp at he; subst he; rfl
      clear he
      gi_wp2
      refine wpIn_scope_once 0 (fun _ _ => False) rfl (fun l a w h => h.2.elim) ?_ (fun _ _ h => h.elim)
      gi_wp2_with (first | (refine ⟨trivial, ?_⟩; gi_at_call 32; refine (CallsIn.inRound l (callsIn_wide.2 (bd_string _ _ _ _ _ hbd (by show out.length + 2 ≤ _; omega)))).mono ?_; rintro e w2 ⟨rfl, hbd2, hbw2, hkw2⟩; have hxw2 := boxed_kept hkw2 HBX.out (by simp) (by decide); have hcw2 := Boxed.cell hxw2; have hfw2 := Boxed.frozen hxw2; have HXw2 := Lib.hid hxw2; clear hxw2))
      exact ⟨(keeps_kept hbw2.size hkw2 HCL.out).trans (KeepsOthers.setCell _ _ _), (Below.heap_setCell _ _ _ _ (by simp <;> omega)).trans ((boxed_kept hkw2 HSX.out (by simp <;> omega) (by decide)).trans HSX.out.symm), ⟨by rw [HST.out]; exact hbd2.set _ HXw2.out (by simp <;> omega) (by decide), by rw [HST.out]; exact HXw2.out.set _, (Below.heap_setCell _ _ _ _ (by simp <;> omega)).trans (boxed_kept hkw2 HSX.out (by simp <;> omega) (by decide))⟩, (hB.trans hbw2).setCell (p := ⟨w.heap.size + 1, 0, none⟩) (by simp) _⟩
    · have HE := Lib.hid he; clear he
      have e1 : p.toList = [] ↔ False := by rw [Lib.toList_data]; exact iff_of_false HE.out id
      have e2 : p.toList.isEmpty = false := by
        rw [Lib.toList_data]
        cases h : p.data.toList with
        | nil => exact absurd h HE.out
        | cons _ _ => rfl
      by_cases hfit : p.size ≤ 75 - line
      · have i1 : (p.size : Int) ≤ 75 - (line : Int) := by omega
        gi_wp2
        refine wpIn_scope_once 0 (fun _ _ => False) rfl (fun l a w h => h.2.elim) ?_ (fun _ _ h => h.elim)
        gi_wp2
        refine wpIn_label ?_
        gi_wp2_with (first | (refine ⟨trivial, ?_⟩; gi_at_call 32; refine (CallsIn.inRound l (callsIn_wide.2 (bd_string _ _ _ _ _ hbd (by omega)))).mono ?_; rintro e w2 ⟨rfl, hbd2, hbw2, hkw2⟩; have hxw2 := boxed_kept hkw2 HBX.out (by simp) (by decide); have hcw2 := Boxed.cell hxw2; have hfw2 := Boxed.frozen hxw2; have HXw2 := Lib.hid hxw2; clear hxw2))
        have HI : est (line, out) p.data.toList = (line + p.size, out ++ p.data.toList) := by
          unfold est; rw [if_neg HE.out, if_pos (by rw [HL.out]; exact hfit), HL.out]
        have hs2 := boxed_kept hkw2 HSX.out (by omega) (by decide)
        exact ⟨(keeps_kept hbw2.size hkw2 HCL.out).trans (KeepsOthers.setCell _ _ _), (Below.heap_setCell _ _ _ _ (by simp <;> omega)).trans (hs2.trans HSX.out.symm), ⟨by rw [HST.out, HI]; exact hbd2.set _ HXw2.out (by simp) (by decide), by rw [HST.out, HI]; exact HXw2.out.set _, (Below.heap_setCell _ _ _ _ (by simp <;> omega)).trans hs2⟩, (hB.trans hbw2).setCell (p := ⟨w.heap.size + 1, 0, none⟩) (by simp) _⟩
      · have i1 : decide ((p.size : Int) ≤ 75 - (line : Int)) = false := by simp; omega
        have HI : est (line, out) p.data.toList = (p.size, out ++ [61, 13, 10] ++ p.data.toList) := by
          unfold est; rw [if_neg HE.out, if_neg (by rw [HL.out]; exact hfit), HL.out]
        have HII := Lib.hid HI; clear HI
        gi_wp2
        refine wpIn_scope_once 0 (fun a' W' => a' = { tmps := #[.string s, undef, .string ⟨#[]⟩, .pointer (some ⟨w.heap.size, 0, none⟩), .pointer (some ⟨w.heap.size + 1, 0, none⟩), .string p, .string s,
          .func (.func 44) #[] #[.pointer (some ⟨w.heap.size + 1 + 1, 0, none⟩)], .string p, .string p, .bool false, undef, .string p, .int .i64 p.size, .int .i64 line, .int .i64 (75 - line), .bool false, undef, undef, undef, undef, undef, undef, .tuple #[.int .i64 3, .nilIface], undef], defers := [] } ∧
          Bd w.heap.size w.heap.size (out ++ [61, 13, 10]) W' ∧ Boxed W' (w.heap.size + 1) 3 (.int .i64 0) ∧ Boxed W' (w.heap.size + 1 + 1) 9 (.string s) ∧ KeepsOthers W W' ∧ Below w.heap.size w W') rfl (fun l a w h => h.2.elim) ?_ ?_
        · gi_wp2
          refine wpIn_label ?_
          gi_wp2_with (first | (refine ⟨trivial, ?_⟩; gi_at_call 32; refine (CallsIn.inRound l (callsIn_wide.2 (bd_string _ _ _ _ _ hbd (by show out.length + 3 ≤ _; omega)))).mono ?_; rintro e w2 ⟨rfl, hbd2, hbw2, hkw2⟩; have hxw2 := boxed_kept hkw2 HBX.out (by simp) (by decide); have hcw2 := Boxed.cell hxw2; have hfw2 := Boxed.frozen hxw2; have HXw2 := Lib.hid hxw2; clear hxw2))
          have hs2 := boxed_kept hkw2 HSX.out (by omega) (by decide)
          refine wpIn_goto ?_
          exact ⟨rfl, rfl, hbd2.set _ HXw2.out (by simp) (by decide), HXw2.out.set _, (Below.heap_setCell _ _ _ _ (by simp <;> omega)).trans hs2, (keeps_kept hbw2.size hkw2 HCL.out).trans (KeepsOthers.setCell _ _ _), (hB.trans hbw2).setCell (p := ⟨w.heap.size + 1, 0, none⟩) (by simp) _⟩
        · rintro a' W' ⟨rfl, hbd3, hbx3, hsx3, hk3, hB3⟩
          clear hc hf
          have hc3 := hbx3.cell
          have hf3 := hbx3.frozen
          have HX3 := Lib.hid hbx3; have HS3 := Lib.hid hsx3; clear hbx3 hsx3
          have i2 : (p.size : Int) ≤ 75 := by omega
          gi_wp2_with (first | (refine ⟨trivial, ?_⟩; gi_at_call 32; refine (CallsIn.inRound l (callsIn_wide.2 (bd_string _ _ _ _ _ hbd3 (by simp; omega)))).mono ?_; rintro e w4 ⟨rfl, hbd4, hbw4, hkw4⟩; have hxw4 := boxed_kept hkw4 HX3.out (by simp) (by decide); have hcw4 := Boxed.cell hxw4; have hfw4 := Boxed.frozen hxw4; have HXw4 := Lib.hid hxw4; clear hxw4))
          have hs4 := boxed_kept hkw4 HS3.out (by omega) (by decide)
          exact ⟨hk3.trans ((keeps_kept hbw4.size hkw4 hbd3.isCells).trans (KeepsOthers.setCell _ _ _)), (Below.heap_setCell _ _ _ _ (by simp <;> omega)).trans (hs4.trans HSX.out.symm), ⟨by rw [HST.out, HII.out]; exact hbd4.set _ HXw4.out (by simp) (by decide), by rw [HST.out, HII.out]; exact HXw4.out.set _, (Below.heap_setCell _ _ _ _ (by simp <;> omega)).trans hs4⟩, (hB3.trans hbw4).setCell (p := ⟨w.heap.size + 1, 0, none⟩) (by simp) _⟩
  case done =>
    rintro D ys W hD hS ⟨⟨hbd, hbx, hsx⟩, hB⟩ hK
    have HK := Lib.hid hK; clear hK
    have HBX := Lib.hid hbx; have HSX := Lib.hid hsx; clear hbx hsx
    gi_wp2_with (first | (refine ⟨trivial, ?_⟩; gi_at_call 33; refine (callsIn_wide.2 (bd_text _ _ _ _ hbd)).mono ?_; rintro e w2 ⟨rfl, hbd2, hb2, hk2⟩))
    have hcl := hbd.isCells
    have hK2 := (keeps_kept hb2.size hk2 hcl).same D _ HK.out rfl
    refine ⟨by simp, .inl ⟨_, _, rfl, run_takeDeferred hK2, ?_⟩⟩
    have hfin : (⟨(estL ((List.range s.size).map (pcAt s.data.toList))).2.toArray⟩ : ByteArray) = ⟨(encL 0 s.data.toList).toArray⟩ := by rw [show s.size = s.data.toList.length from rfl, estL_all]
    exact ⟨_, results_tmp (t := 2) rfl _ _ _, congrArg (fun z => Ending.returned (.string z)) hfin, (hB.trans hb2).trans (belowK_b (w := w) (Nat.le_refl _) _ D _ _ (by simp at hD; omega) hK2 rfl rfl)⟩
  case stop =>
    rintro D c pre W _ _ h _
    exact h.elim
end Go.Proofs.Ytbkhgmehfgfmfaa
