/- head's reader: param. -/
import Derived.Test.YtdfflbpifpoogaaDoorHpq
import Derived.Maps.Range
set_option linter.unusedVariables false
set_option synthInstance.maxSize 4000
namespace Nun
open Go Go.RowKit
/-- A pair of texts in a block of its own. -/
def PairAt (w : World) (B t : Nat) (a b : ByteArray) : Prop := w.heap[B]? = some (.cells #[.string a, .string b] t (0, 0))
theorem PairAt.lt {w : World} {B t : Nat} {a b : ByteArray} (h : PairAt w B t a b) : B < w.heap.size := (Array.getElem?_eq_some_iff.1 h).1
theorem PairAt.cell0 {w : World} {B t : Nat} {a b : ByteArray} (h : PairAt w B t a b) : w.cell? ⟨B, 0, none⟩ = some (.string a) := by simp [World.cell?, show w.heap[B]? = _ from h]
theorem PairAt.cell1 {w : World} {B t : Nat} {a b : ByteArray} (h : PairAt w B t a b) : w.cell? ⟨B, 1, none⟩ = some (.string b) := by simp [World.cell?, show w.heap[B]? = _ from h]
theorem PairAt.frozen0 {w : World} {B t : Nat} {a b : ByteArray} (h : PairAt w B t a b) : w.frozen? ⟨B, 0, none⟩ = false := by simp [World.frozen?, show w.heap[B]? = _ from h]
theorem PairAt.frozen1 {w : World} {B t : Nat} {a b : ByteArray} (h : PairAt w B t a b) : w.frozen? ⟨B, 1, none⟩ = false := by simp [World.frozen?, show w.heap[B]? = _ from h]
theorem PairAt.kept {w w' : World} {B t : Nat} {a b : ByteArray} {r : Option Nat} (h : PairAt w B t a b) (k : w.grownBy w' r) (hne : some B ≠ r) : PairAt w' B t a b := (k.block B h.lt hne).trans h
theorem PairAt.set0 {w : World} {B t : Nat} {a b : ByteArray} (h : PairAt w B t a b) (c : ByteArray) : PairAt (w.setCell ⟨B, 0, none⟩ (.string c)) B t c b := by
  obtain ⟨hlt, hk⟩ := Array.getElem?_eq_some_iff.1 h
  show (w.heap.modify B _)[B]? = _
  rw [Array.getElem?_eq_getElem (by rw [Array.size_modify]; exact hlt), Array.getElem_modify_self, hk]
  rfl
theorem PairAt.set1 {w : World} {B t : Nat} {a b : ByteArray} (h : PairAt w B t a b) (c : ByteArray) : PairAt (w.setCell ⟨B, 1, none⟩ (.string c)) B t a c := by
  obtain ⟨hlt, hk⟩ := Array.getElem?_eq_some_iff.1 h
  show (w.heap.modify B _)[B]? = _
  rw [Array.getElem?_eq_getElem (by rw [Array.size_modify]; exact hlt), Array.getElem_modify_self, hk]
  rfl
theorem grown_set (w : World) (B k : Nat) (v : Value) : w.grownBy (w.setCell ⟨B, k, none⟩ v) (some B) := by
  refine ⟨rfl, rfl, rfl, by simp, fun i hi hne => ?_⟩
  have hBi : B ≠ i := fun e => hne (by rw [e])
  show (w.heap.modify B _)[i]? = _
  rw [Array.getElem?_modify, if_neg hBi]
theorem grown_fresh {w w' : World} {R B k : Nat} {v : Value} (h : w.grownBy w' (some R)) (hB : w.heap.size ≤ B) : w.grownBy (w'.setCell ⟨B, k, none⟩ v) (some R) :=
  World.grownBy.andThen h (grown_set w' B k v) (fun j e => by cases e; exact .inl hB)
theorem grown_drew {w w' : World} {r : Option Nat} (h : w.grownBy w' r) : w.grownBy w'.drew r := ⟨h.os, h.tape, h.output, h.size, h.block⟩
theorem PairAt.new (w : World) (t : Nat) (a b : ByteArray) : PairAt (w.alloc (.cells #[.string a, .string b] t)) w.heap.size t a b := World.alloc_heap_new w _
end Nun
namespace Go.Proofs.YtdfflbpifpoogaaDoor
open Go Go.RowKit Nun
theorem named_head (s : List UInt8) (b : Bool) (h : nameL s = b) (w : World) (hs : s.length ≤ 1000000) : Calls Tryd.prog 23 #[.string ⟨s.toArray⟩] w (Same (.bool b) w) := h ▸ named_any ⟨s.toArray⟩ w (by unfold maxLen; show s.length ≤ _; omega)
theorem sign61 (R : Nat) (l : List UInt8) (w : World) (hl : l.length ≤ 1000000) (hb : Boxed w R 62 (.string ⟨l.toArray⟩)) (o : Option (List UInt8)) (ho : signL 61 l = o) :
    Calls Tryd.prog 32 #[.pointer (some ⟨R, 0, none⟩), .int .u8 61] w fun e w' => e = .returned (.bool o.isSome) ∧ Boxed w' R 62 (.string ⟨(o.getD l).toArray⟩) ∧ w.grownBy w' (some R) := sign_head R 61 l w hl hb o ho
theorem sign34 (R : Nat) (l : List UInt8) (w : World) (hl : l.length ≤ 1000000) (hb : Boxed w R 62 (.string ⟨l.toArray⟩)) (o : Option (List UInt8)) (ho : signL 34 l = o) :
    Calls Tryd.prog 32 #[.pointer (some ⟨R, 0, none⟩), .int .u8 34] w fun e w' => e = .returned (.bool o.isSome) ∧ Boxed w' R 62 (.string ⟨(o.getD l).toArray⟩) ∧ w.grownBy w' (some R) := sign_head R 34 l w hl hb o ho
theorem sign59 (R : Nat) (l : List UInt8) (w : World) (hl : l.length ≤ 1000000) (hb : Boxed w R 62 (.string ⟨l.toArray⟩)) (o : Option (List UInt8)) (ho : signL 59 l = o) :
    Calls Tryd.prog 32 #[.pointer (some ⟨R, 0, none⟩), .int .u8 59] w fun e w' => e = .returned (.bool o.isSome) ∧ Boxed w' R 62 (.string ⟨(o.getD l).toArray⟩) ∧ w.grownBy w' (some R) := sign_head R 59 l w hl hb o ho
theorem namedh_of (s : ByteArray) (b : Bool) (h : nameL s.data.toList = b) (w : World) (hs : s.size ≤ maxLen) : Calls Tryd.prog 23 #[.string s] w (Same (.bool b) w) := h ▸ named_any s w hs
theorem results_pair {w : World} {tmps : Array Value} {B : Nat} {a b : ByteArray} {ok : Bool} (h : PairAt w B 43 a b)
    (h2 : tmps.getD 2 undef = .pointer (some ⟨B, 0, none⟩) := by rfl) (h3 : tmps.getD 3 undef = .bool ok := by rfl) :
    (results Tryd.f33 tmps).run Tryd.prog w = .ok (.tuple #[.agg #[.string a, .string b], .bool ok]) w := by
  rw [Array.getD_eq_getD_getElem?] at h2 h3
  have c0 := h.cell0; have c1 := h.cell1
  simp [results, Tryd.results33, go_sem, c0, c1, h2, h3]
def pairV (R : Nat) (w : World) : Option (Fld × List UInt8) → Ending → World → Prop
  | none, e, w' => (∃ a b, e = .returned (.tuple #[.agg #[.string a, .string b], .bool false])) ∧ w.grownBy w' (some R)
  | some (p, r), e, w' => e = .returned (.tuple #[.agg #[.string ⟨p.1.toArray⟩, .string ⟨p.2.toArray⟩], .bool true]) ∧ Boxed w' R 62 (.string ⟨r.toArray⟩) ∧ w.grownBy w' (some R)
set_option maxHeartbeats 2000000 in
set_option maxRecDepth 100000 in
theorem param_head (R : Nat) (l : List UInt8) (w : World) (hl : l.length ≤ 1000000) (hb : Boxed w R 62 (.string ⟨l.toArray⟩)) (Q : Option (Fld × List UInt8)) (hQ : paramL l = Q) :
    Calls Tryd.prog 33 #[.pointer (some ⟨R, 0, none⟩)] w (pairV R w Q) := by
  obtain ⟨l1, h1⟩ : ∃ l1, l.dropWhile blankC = l1 := ⟨_, rfl⟩
  obtain ⟨k, hk⟩ : ∃ k, l1.takeWhile plainC = k := ⟨_, rfl⟩
  obtain ⟨l2, h2⟩ : ∃ l2, l1.dropWhile plainC = l2 := ⟨_, rfl⟩
  unfold paramL at hQ
  rw [h1, hk, h2] at hQ
  have hl1 : l1.length ≤ 1000000 := by have := dropWhile_len blankC l; rw [h1] at this; omega
  have hl2 : l2.length ≤ 1000000 := by have := dropWhile_len plainC l1; rw [h2] at this; omega
  have hlk : k.length ≤ 1000000 := by have := takeWhile_len plainC l1; rw [hk] at this; omega
  have hb0 : Boxed (w.alloc (.cells #[.string ⟨#[]⟩, .string ⟨#[]⟩] 43)) R 62 (.string ⟨l.toArray⟩) := hb.alloc _
  have hp0 := PairAt.new w 43 ⟨#[]⟩ ⟨#[]⟩
  have hRl := hb.lt
  have HB0 := Lib.hid hb0; have HP0 := Lib.hid hp0; have H1 := Lib.hid h1; have HK := Lib.hid hk; have H2 := Lib.hid h2; have HQ := Lib.hid hQ
  clear hb0 hp0 h1 hk h2 hQ hb
  obtain ⟨K, hK⟩ : ∃ K : ByteArray, (⟨k.toArray⟩ : ByteArray) = K := ⟨_, rfl⟩
  have hKs : K.size ≤ maxLen := by rw [← hK]; show k.length ≤ maxLen; unfold maxLen; omega
  have hKd : K.data.toList = k := by rw [← hK]
  have HKK := Lib.hid hK; clear hK
  have hne : some w.heap.size ≠ some R := by simp; omega
  rcases hn : nameL k with _ | _
  · have HN := Lib.hid (show nameL K.data.toList = false by rw [hKd]; exact hn)
    have hq := HQ.out
    rw [hn, if_neg (by simp)] at hq
    subst hq
    clear hn hKd
    go_enter Tryd.func33, Tryd.ntmps33
    go_wp2_with (first | (go_at_call 30; refine (blanks_head R l _ HB0.out l1 H1.out).mono ?_; rintro e w1 ⟨rfl, hb1, hg1⟩; have HG1 := Lib.hid hg1; have HB1 := Lib.hid hb1; clear hg1 hb1) | (go_at_call 31; refine (run_head R l1 _ hl1 HB1.out k l2 HK.out H2.out).mono ?_; rintro e w2 ⟨rfl, hb2, hg2⟩; clear HK; rw [HKK.out]; have hB2 := (HP0.out.kept HG1.out hne).kept hg2 hne; have HG2 := Lib.hid (((World.grownBy_alloc w _ _).trans HG1.out).trans hg2); have HB2 := Lib.hid (Boxed.alloc hb2 (.cells #[.string K, .string ⟨#[]⟩] 43)); have HBB := Lib.hid (hB2.kept (World.grownBy_alloc w2 (.cells #[.string K, .string ⟨#[]⟩] 43) none) (by simp)); have hPP := PairAt.new w2 43 K ⟨#[]⟩; have hRw : R < w2.heap.size := Boxed.lt hb2; have hBw : w.heap.size < w2.heap.size := PairAt.lt hB2; have hneP : some w2.heap.size ≠ some R := (by simp; omega); have HG2a := Lib.hid (HG2.out.trans (World.grownBy_alloc w2 (.cells #[.string K, .string ⟨#[]⟩] 43) (some R))); have HPP := Lib.hid hPP; have hBc0 := hB2.cell0; have hBc1 := hB2.cell1; have hBf0 := hB2.frozen0; have hBf1 := hB2.frozen1; have HBW := Lib.hid hB2; clear hg2 hb2 hB2 hPP) | (go_at_call 23; refine (namedh_of K false HN.out _ hKs).mono ?_; rintro e w3 ⟨rfl, rfl⟩))
    refine bodyPost_ret (results_pair (((HBW.out.set0 K).set1 ⟨#[]⟩).kept (World.grownBy_alloc _ _ none) (by simp))) rfl ?_
    exact ⟨⟨_, _, rfl⟩, (grown_fresh (grown_fresh HG2.out (Nat.le_refl _)) (Nat.le_refl _)).trans (World.grownBy_alloc _ _ _)⟩
  · have HN := Lib.hid (show nameL K.data.toList = true by rw [hKd]; exact hn)
    rcases hs : signL 61 l2 with _ | l3
    · have HS := Lib.hid hs
      have hq := HQ.out
      rw [hn, if_pos rfl, hs] at hq
      subst hq
      clear hn hKd hs
      go_enter Tryd.func33, Tryd.ntmps33
      go_wp2_with (first | (go_at_call 30; refine (blanks_head R l _ HB0.out l1 H1.out).mono ?_; rintro e w1 ⟨rfl, hb1, hg1⟩; have HG1 := Lib.hid hg1; have HB1 := Lib.hid hb1; clear hg1 hb1) | (go_at_call 31; refine (run_head R l1 _ hl1 HB1.out k l2 HK.out H2.out).mono ?_; rintro e w2 ⟨rfl, hb2, hg2⟩; clear HK; rw [HKK.out]; have hB2 := (HP0.out.kept HG1.out hne).kept hg2 hne; have HG2 := Lib.hid (((World.grownBy_alloc w _ _).trans HG1.out).trans hg2); have HB2 := Lib.hid (Boxed.alloc hb2 (.cells #[.string K, .string ⟨#[]⟩] 43)); have HBB := Lib.hid (hB2.kept (World.grownBy_alloc w2 (.cells #[.string K, .string ⟨#[]⟩] 43) none) (by simp)); have hPP := PairAt.new w2 43 K ⟨#[]⟩; have hRw : R < w2.heap.size := Boxed.lt hb2; have hBw : w.heap.size < w2.heap.size := PairAt.lt hB2; have hneP : some w2.heap.size ≠ some R := (by simp; omega); have HG2a := Lib.hid (HG2.out.trans (World.grownBy_alloc w2 (.cells #[.string K, .string ⟨#[]⟩] 43) (some R))); have HPP := Lib.hid hPP; have hBc0 := hB2.cell0; have hBc1 := hB2.cell1; have hBf0 := hB2.frozen0; have hBf1 := hB2.frozen1; have HBW := Lib.hid hB2; clear hg2 hb2 hB2 hPP) | (go_at_call 23; refine (namedh_of K true HN.out _ hKs).mono ?_; rintro e w3 ⟨rfl, rfl⟩) | (go_at_call 32; refine (sign61 R l2 _ hl2 HB2.out none HS.out).mono ?_; rintro e w3 ⟨rfl, hb3, hg3⟩; clear HS; have hP3 := HPP.out.kept hg3 hneP; have hB3 := HBB.out.kept hg3 hne; have HG3 := Lib.hid (HG2a.out.trans hg3); have HB3 := Lib.hid hb3; have HP3 := Lib.hid hP3; have HBB3 := Lib.hid hB3; have c0 := hP3.cell0; have c1 := hP3.cell1; have f0 := hP3.frozen0; have f1 := hP3.frozen1; have d0 := hB3.cell0; have d1 := hB3.cell1; have e0 := hB3.frozen0; have e1 := hB3.frozen1; clear hb3 hg3 hP3 hB3))
      refine bodyPost_ret (results_pair ((HBB3.out.set0 K).set1 ⟨#[]⟩)) rfl ?_
      exact ⟨⟨_, _, rfl⟩, grown_fresh (grown_fresh HG3.out (Nat.le_refl _)) (Nat.le_refl _)⟩
    · have HS := Lib.hid hs
      have hl3 : l3.length ≤ 1000000 := by have := congrArg List.length (signL_len hs); rw [List.length_cons] at this; omega
      have hBP : some w.heap.size ≠ some R := hne
      rcases hs2 : signL 34 l3 with _ | l4
      · obtain ⟨v, hv⟩ : ∃ v, l3.takeWhile plainC = v := ⟨_, rfl⟩
        obtain ⟨r, hr⟩ : ∃ r, l3.dropWhile plainC = r := ⟨_, rfl⟩
        obtain ⟨V, hVV⟩ : ∃ V : ByteArray, (⟨v.toArray⟩ : ByteArray) = V := ⟨_, rfl⟩
        have HT := Lib.hid hs2; have HVV := Lib.hid hv; have HRR := Lib.hid hr; have HV := Lib.hid hVV
        have hq := HQ.out
        rw [hn, if_pos rfl, hs] at hq
        dsimp only at hq
        rw [hs2] at hq
        dsimp only at hq
        rw [hv, hr] at hq
        by_cases hv0 : v = []
        · rw [if_pos hv0] at hq
          subst hq
          have hem : V.toList.isEmpty = true := by rw [Lib.toList_data, ← hVV, hv0]; rfl
          clear hn hKd hs hs2 hv hr hVV hv0
          go_enter Tryd.func33, Tryd.ntmps33
          go_wp2_with (first | (go_at_call 30; refine (blanks_head R l _ HB0.out l1 H1.out).mono ?_; rintro e w1 ⟨rfl, hb1, hg1⟩; have HG1 := Lib.hid hg1; have HB1 := Lib.hid hb1; clear hg1 hb1) | (go_at_call 31; refine (run_head R l1 _ hl1 HB1.out k l2 HK.out H2.out).mono ?_; rintro e w2 ⟨rfl, hb2, hg2⟩; clear HK; rw [HKK.out]; have hB2 := (HP0.out.kept HG1.out hne).kept hg2 hne; have HG2 := Lib.hid (((World.grownBy_alloc w _ _).trans HG1.out).trans hg2); have HB2 := Lib.hid (Boxed.alloc hb2 (.cells #[.string K, .string ⟨#[]⟩] 43)); have HBB := Lib.hid (hB2.kept (World.grownBy_alloc w2 (.cells #[.string K, .string ⟨#[]⟩] 43) none) (by simp)); have hPP := PairAt.new w2 43 K ⟨#[]⟩; have hRw : R < w2.heap.size := Boxed.lt hb2; have hBw : w.heap.size < w2.heap.size := PairAt.lt hB2; have hneP : some w2.heap.size ≠ some R := (by simp; omega); have HG2a := Lib.hid (HG2.out.trans (World.grownBy_alloc w2 (.cells #[.string K, .string ⟨#[]⟩] 43) (some R))); have HPP := Lib.hid hPP; have hBc0 := hB2.cell0; have hBc1 := hB2.cell1; have hBf0 := hB2.frozen0; have hBf1 := hB2.frozen1; have HBW := Lib.hid hB2; clear hg2 hb2 hB2 hPP) | (go_at_call 23; refine (namedh_of K true HN.out _ hKs).mono ?_; rintro e w3 ⟨rfl, rfl⟩) | (go_at_call 32; refine (sign61 R l2 _ hl2 HB2.out (some l3) HS.out).mono ?_; rintro e w3 ⟨rfl, hb3, hg3⟩; clear HS; have hP3 := HPP.out.kept hg3 hneP; have hB3 := HBB.out.kept hg3 hne; have HG3 := Lib.hid (HG2a.out.trans hg3); have HB3 := Lib.hid hb3; have HP3 := Lib.hid hP3; have HBB3 := Lib.hid hB3; have c0 := hP3.cell0; have c1 := hP3.cell1; have f0 := hP3.frozen0; have f1 := hP3.frozen1; have d0 := hB3.cell0; have d1 := hB3.cell1; have e0 := hB3.frozen0; have e1 := hB3.frozen1; clear hb3 hg3 hP3 hB3) | (go_at_call 32; refine (sign34 R l3 _ hl3 HB3.out none HT.out).mono ?_; rintro e w4 ⟨rfl, hb4, hg4⟩; clear HT; have hP4 := HP3.out.kept hg4 hneP; have hB4 := HBB3.out.kept hg4 hne; have HG4 := Lib.hid (HG3.out.trans hg4); have HB4 := Lib.hid hb4; have HP4 := Lib.hid hP4; have HBB4 := Lib.hid hB4; have c40 := hP4.cell0; have c41 := hP4.cell1; have f40 := hP4.frozen0; have f41 := hP4.frozen1; have d40 := hB4.cell0; have d41 := hB4.cell1; have e40 := hB4.frozen0; have e41 := hB4.frozen1; clear hb4 hg4 hP4 hB4) | (go_at_call 31; refine (run_head R l3 _ hl3 HB4.out v r HVV.out HRR.out).mono ?_; rintro e w5 ⟨rfl, hb5, hg5⟩; rw [HV.out]; have hP5 := HP4.out.kept hg5 hneP; have hB5 := HBB4.out.kept hg5 hne; have HG5 := Lib.hid (HG4.out.trans hg5); have HB5 := Lib.hid hb5; have HP5 := Lib.hid hP5; have HBB5 := Lib.hid hB5; have c50 := hP5.cell0; have c51 := hP5.cell1; have f50 := hP5.frozen0; have f51 := hP5.frozen1; have d50 := hB5.cell0; have d51 := hB5.cell1; have e50 := hB5.frozen0; have e51 := hB5.frozen1; clear hb5 hg5 hP5 hB5))
          go_region
          all_goals
            go_wp2
            refine bodyPost_ret (results_pair (((HBB5.out.kept (grown_set _ _ 1 (.string V)) (by simp; omega)).set0 K).set1 V)) rfl ?_
            exact ⟨⟨_, _, rfl⟩, grown_drew (grown_fresh (grown_fresh (grown_fresh HG5.out (Nat.le_of_lt hBw)) (Nat.le_refl _)) (Nat.le_refl _))⟩
        · rw [if_neg hv0] at hq
          subst hq
          have hem : V.toList.isEmpty = false := by
            rw [Lib.toList_data, ← hVV]
            rcases v with _ | ⟨c, u⟩
            · exact absurd rfl hv0
            · rfl
          clear hn hKd hs hs2 hv hr hVV hv0
          go_enter Tryd.func33, Tryd.ntmps33
          go_wp2_with (first | (go_at_call 30; refine (blanks_head R l _ HB0.out l1 H1.out).mono ?_; rintro e w1 ⟨rfl, hb1, hg1⟩; have HG1 := Lib.hid hg1; have HB1 := Lib.hid hb1; clear hg1 hb1) | (go_at_call 31; refine (run_head R l1 _ hl1 HB1.out k l2 HK.out H2.out).mono ?_; rintro e w2 ⟨rfl, hb2, hg2⟩; clear HK; rw [HKK.out]; have hB2 := (HP0.out.kept HG1.out hne).kept hg2 hne; have HG2 := Lib.hid (((World.grownBy_alloc w _ _).trans HG1.out).trans hg2); have HB2 := Lib.hid (Boxed.alloc hb2 (.cells #[.string K, .string ⟨#[]⟩] 43)); have HBB := Lib.hid (hB2.kept (World.grownBy_alloc w2 (.cells #[.string K, .string ⟨#[]⟩] 43) none) (by simp)); have hPP := PairAt.new w2 43 K ⟨#[]⟩; have hRw : R < w2.heap.size := Boxed.lt hb2; have hBw : w.heap.size < w2.heap.size := PairAt.lt hB2; have hneP : some w2.heap.size ≠ some R := (by simp; omega); have HG2a := Lib.hid (HG2.out.trans (World.grownBy_alloc w2 (.cells #[.string K, .string ⟨#[]⟩] 43) (some R))); have HPP := Lib.hid hPP; have hBc0 := hB2.cell0; have hBc1 := hB2.cell1; have hBf0 := hB2.frozen0; have hBf1 := hB2.frozen1; have HBW := Lib.hid hB2; clear hg2 hb2 hB2 hPP) | (go_at_call 23; refine (namedh_of K true HN.out _ hKs).mono ?_; rintro e w3 ⟨rfl, rfl⟩) | (go_at_call 32; refine (sign61 R l2 _ hl2 HB2.out (some l3) HS.out).mono ?_; rintro e w3 ⟨rfl, hb3, hg3⟩; clear HS; have hP3 := HPP.out.kept hg3 hneP; have hB3 := HBB.out.kept hg3 hne; have HG3 := Lib.hid (HG2a.out.trans hg3); have HB3 := Lib.hid hb3; have HP3 := Lib.hid hP3; have HBB3 := Lib.hid hB3; have c0 := hP3.cell0; have c1 := hP3.cell1; have f0 := hP3.frozen0; have f1 := hP3.frozen1; have d0 := hB3.cell0; have d1 := hB3.cell1; have e0 := hB3.frozen0; have e1 := hB3.frozen1; clear hb3 hg3 hP3 hB3) | (go_at_call 32; refine (sign34 R l3 _ hl3 HB3.out none HT.out).mono ?_; rintro e w4 ⟨rfl, hb4, hg4⟩; clear HT; have hP4 := HP3.out.kept hg4 hneP; have hB4 := HBB3.out.kept hg4 hne; have HG4 := Lib.hid (HG3.out.trans hg4); have HB4 := Lib.hid hb4; have HP4 := Lib.hid hP4; have HBB4 := Lib.hid hB4; have c40 := hP4.cell0; have c41 := hP4.cell1; have f40 := hP4.frozen0; have f41 := hP4.frozen1; have d40 := hB4.cell0; have d41 := hB4.cell1; have e40 := hB4.frozen0; have e41 := hB4.frozen1; clear hb4 hg4 hP4 hB4) | (go_at_call 31; refine (run_head R l3 _ hl3 HB4.out v r HVV.out HRR.out).mono ?_; rintro e w5 ⟨rfl, hb5, hg5⟩; rw [HV.out]; have hP5 := HP4.out.kept hg5 hneP; have hB5 := HBB4.out.kept hg5 hne; have HG5 := Lib.hid (HG4.out.trans hg5); have HB5 := Lib.hid hb5; have HP5 := Lib.hid hP5; have HBB5 := Lib.hid hB5; have c50 := hP5.cell0; have c51 := hP5.cell1; have f50 := hP5.frozen0; have f51 := hP5.frozen1; have d50 := hB5.cell0; have d51 := hB5.cell1; have e50 := hB5.frozen0; have e51 := hB5.frozen1; clear hb5 hg5 hP5 hB5))
          go_region
          all_goals
            go_wp2
            refine bodyPost_ret (results_pair (((HBB5.out.kept (grown_set _ _ 1 (.string V)) (by simp; omega)).set0 K).set1 V)) rfl ?_
            exact ⟨by rw [← HKK.out, ← HV.out], ((HB5.out.kept (grown_set _ w2.heap.size 1 (.string V)) (by simp; omega)).kept (grown_set _ w.heap.size 0 (.string K)) (by simp; omega)).kept (grown_drew (grown_set _ w.heap.size 1 (.string V))) (Ne.symm hne), grown_drew (grown_fresh (grown_fresh (grown_fresh HG5.out (Nat.le_of_lt hBw)) (Nat.le_refl _)) (Nat.le_refl _))⟩
      · have HT := Lib.hid hs2
        have hl4 : l4.length ≤ 1000000 := by have := congrArg List.length (signL_len hs2); rw [List.length_cons] at this; omega
        have hq := HQ.out
        rw [hn, if_pos rfl, hs] at hq
        dsimp only at hq
        rw [hs2] at hq
        dsimp only at hq
        rcases hqq : quotedL (l4.length + 1) l4 with _ | ⟨v, r⟩
        · rw [hqq] at hq
          replace hq : none = Q := hq
          subst hq
          have HQQ := Lib.hid hqq
          clear hn hKd hs hs2 hqq
          go_enter Tryd.func33, Tryd.ntmps33
          go_wp2_with (first | (go_at_call 30; refine (blanks_head R l _ HB0.out l1 H1.out).mono ?_; rintro e w1 ⟨rfl, hb1, hg1⟩; have HG1 := Lib.hid hg1; have HB1 := Lib.hid hb1; clear hg1 hb1) | (go_at_call 31; refine (run_head R l1 _ hl1 HB1.out k l2 HK.out H2.out).mono ?_; rintro e w2 ⟨rfl, hb2, hg2⟩; clear HK; rw [HKK.out]; have hB2 := (HP0.out.kept HG1.out hne).kept hg2 hne; have HG2 := Lib.hid (((World.grownBy_alloc w _ _).trans HG1.out).trans hg2); have HB2 := Lib.hid (Boxed.alloc hb2 (.cells #[.string K, .string ⟨#[]⟩] 43)); have HBB := Lib.hid (hB2.kept (World.grownBy_alloc w2 (.cells #[.string K, .string ⟨#[]⟩] 43) none) (by simp)); have hPP := PairAt.new w2 43 K ⟨#[]⟩; have hRw : R < w2.heap.size := Boxed.lt hb2; have hBw : w.heap.size < w2.heap.size := PairAt.lt hB2; have hneP : some w2.heap.size ≠ some R := (by simp; omega); have HG2a := Lib.hid (HG2.out.trans (World.grownBy_alloc w2 (.cells #[.string K, .string ⟨#[]⟩] 43) (some R))); have HPP := Lib.hid hPP; have hBc0 := hB2.cell0; have hBc1 := hB2.cell1; have hBf0 := hB2.frozen0; have hBf1 := hB2.frozen1; have HBW := Lib.hid hB2; clear hg2 hb2 hB2 hPP) | (go_at_call 23; refine (namedh_of K true HN.out _ hKs).mono ?_; rintro e w3 ⟨rfl, rfl⟩) | (go_at_call 32; refine (sign61 R l2 _ hl2 HB2.out (some l3) HS.out).mono ?_; rintro e w3 ⟨rfl, hb3, hg3⟩; clear HS; have hP3 := HPP.out.kept hg3 hneP; have hB3 := HBB.out.kept hg3 hne; have HG3 := Lib.hid (HG2a.out.trans hg3); have HB3 := Lib.hid hb3; have HP3 := Lib.hid hP3; have HBB3 := Lib.hid hB3; have c0 := hP3.cell0; have c1 := hP3.cell1; have f0 := hP3.frozen0; have f1 := hP3.frozen1; have d0 := hB3.cell0; have d1 := hB3.cell1; have e0 := hB3.frozen0; have e1 := hB3.frozen1; clear hb3 hg3 hP3 hB3) | (go_at_call 32; refine (sign34 R l3 _ hl3 HB3.out (some l4) HT.out).mono ?_; rintro e w4 ⟨rfl, hb4, hg4⟩; clear HT; have hP4 := HP3.out.kept hg4 hneP; have hB4 := HBB3.out.kept hg4 hne; have HG4 := Lib.hid (HG3.out.trans hg4); have HB4 := Lib.hid hb4; have HP4 := Lib.hid hP4; have HBB4 := Lib.hid hB4; have c40 := hP4.cell0; have c41 := hP4.cell1; have f40 := hP4.frozen0; have f41 := hP4.frozen1; have d40 := hB4.cell0; have d41 := hB4.cell1; have e40 := hB4.frozen0; have e41 := hB4.frozen1; clear hb4 hg4 hP4 hB4) | (go_at_call 48; refine (quoted_head R l4 _ hl4 HB4.out none HQQ.out).mono ?_; rintro e w5 ⟨rfl, hg5⟩; have hP5 := HP4.out.kept hg5 hneP; have hB5 := HBB4.out.kept hg5 hne; have HG5 := Lib.hid (HG4.out.trans hg5); have HP5 := Lib.hid hP5; have HBB5 := Lib.hid hB5; have c50 := hP5.cell0; have c51 := hP5.cell1; have f50 := hP5.frozen0; have f51 := hP5.frozen1; have d50 := hB5.cell0; have d51 := hB5.cell1; have e50 := hB5.frozen0; have e51 := hB5.frozen1; clear hg5 hP5 hB5))
          refine bodyPost_ret (results_pair (((HBB5.out.kept (grown_set _ _ 1 (.string ⟨#[]⟩)) (by simp; omega)).set0 K).set1 ⟨#[]⟩)) rfl ?_
          exact ⟨⟨_, _, rfl⟩, grown_fresh (grown_fresh (grown_fresh HG5.out (Nat.le_of_lt hBw)) (Nat.le_refl _)) (Nat.le_refl _)⟩
        · rw [hqq] at hq
          replace hq : some ((k, v), r) = Q := hq
          subst hq
          obtain ⟨V, hVV⟩ : ∃ V : ByteArray, (⟨v.toArray⟩ : ByteArray) = V := ⟨_, rfl⟩
          have HV := Lib.hid hVV
          have HQQ := Lib.hid hqq
          clear hn hKd hs hs2 hqq hVV
          go_enter Tryd.func33, Tryd.ntmps33
          go_wp2_with (first | (go_at_call 30; refine (blanks_head R l _ HB0.out l1 H1.out).mono ?_; rintro e w1 ⟨rfl, hb1, hg1⟩; have HG1 := Lib.hid hg1; have HB1 := Lib.hid hb1; clear hg1 hb1) | (go_at_call 31; refine (run_head R l1 _ hl1 HB1.out k l2 HK.out H2.out).mono ?_; rintro e w2 ⟨rfl, hb2, hg2⟩; clear HK; rw [HKK.out]; have hB2 := (HP0.out.kept HG1.out hne).kept hg2 hne; have HG2 := Lib.hid (((World.grownBy_alloc w _ _).trans HG1.out).trans hg2); have HB2 := Lib.hid (Boxed.alloc hb2 (.cells #[.string K, .string ⟨#[]⟩] 43)); have HBB := Lib.hid (hB2.kept (World.grownBy_alloc w2 (.cells #[.string K, .string ⟨#[]⟩] 43) none) (by simp)); have hPP := PairAt.new w2 43 K ⟨#[]⟩; have hRw : R < w2.heap.size := Boxed.lt hb2; have hBw : w.heap.size < w2.heap.size := PairAt.lt hB2; have hneP : some w2.heap.size ≠ some R := (by simp; omega); have HG2a := Lib.hid (HG2.out.trans (World.grownBy_alloc w2 (.cells #[.string K, .string ⟨#[]⟩] 43) (some R))); have HPP := Lib.hid hPP; have hBc0 := hB2.cell0; have hBc1 := hB2.cell1; have hBf0 := hB2.frozen0; have hBf1 := hB2.frozen1; have HBW := Lib.hid hB2; clear hg2 hb2 hB2 hPP) | (go_at_call 23; refine (namedh_of K true HN.out _ hKs).mono ?_; rintro e w3 ⟨rfl, rfl⟩) | (go_at_call 32; refine (sign61 R l2 _ hl2 HB2.out (some l3) HS.out).mono ?_; rintro e w3 ⟨rfl, hb3, hg3⟩; clear HS; have hP3 := HPP.out.kept hg3 hneP; have hB3 := HBB.out.kept hg3 hne; have HG3 := Lib.hid (HG2a.out.trans hg3); have HB3 := Lib.hid hb3; have HP3 := Lib.hid hP3; have HBB3 := Lib.hid hB3; have c0 := hP3.cell0; have c1 := hP3.cell1; have f0 := hP3.frozen0; have f1 := hP3.frozen1; have d0 := hB3.cell0; have d1 := hB3.cell1; have e0 := hB3.frozen0; have e1 := hB3.frozen1; clear hb3 hg3 hP3 hB3) | (go_at_call 32; refine (sign34 R l3 _ hl3 HB3.out (some l4) HT.out).mono ?_; rintro e w4 ⟨rfl, hb4, hg4⟩; clear HT; have hP4 := HP3.out.kept hg4 hneP; have hB4 := HBB3.out.kept hg4 hne; have HG4 := Lib.hid (HG3.out.trans hg4); have HB4 := Lib.hid hb4; have HP4 := Lib.hid hP4; have HBB4 := Lib.hid hB4; have c40 := hP4.cell0; have c41 := hP4.cell1; have f40 := hP4.frozen0; have f41 := hP4.frozen1; have d40 := hB4.cell0; have d41 := hB4.cell1; have e40 := hB4.frozen0; have e41 := hB4.frozen1; clear hb4 hg4 hP4 hB4) | (go_at_call 48; refine (quoted_head R l4 _ hl4 HB4.out (some (v, r)) HQQ.out).mono ?_; rintro e w5 ⟨rfl, hb5, hg5⟩; rw [HV.out]; have hP5 := HP4.out.kept hg5 hneP; have hB5 := HBB4.out.kept hg5 hne; have HG5 := Lib.hid (HG4.out.trans hg5); have HB5 := Lib.hid hb5; have HP5 := Lib.hid hP5; have HBB5 := Lib.hid hB5; have c50 := hP5.cell0; have c51 := hP5.cell1; have f50 := hP5.frozen0; have f51 := hP5.frozen1; have d50 := hB5.cell0; have d51 := hB5.cell1; have e50 := hB5.frozen0; have e51 := hB5.frozen1; clear hb5 hg5 hP5 hB5))
          refine bodyPost_ret (results_pair (((HBB5.out.kept (grown_set _ _ 1 (.string V)) (by simp; omega)).set0 K).set1 V)) rfl ?_
          exact ⟨by rw [← HKK.out, ← HV.out], ((HB5.out.kept (grown_set _ w2.heap.size 1 (.string V)) (by simp; omega)).kept (grown_set _ w.heap.size 0 (.string K)) (by simp; omega)).kept (grown_set _ w.heap.size 1 (.string V)) (Ne.symm hne), grown_fresh (grown_fresh (grown_fresh HG5.out (Nat.le_of_lt hBw)) (Nat.le_refl _)) (Nat.le_refl _)⟩
end Go.Proofs.YtdfflbpifpoogaaDoor
