/- head's reader: quoted. -/
import Derived.Test.YtdfflbpifpoogaaDoorHpr
import Derived.WalkMore
set_option linter.unusedVariables false
set_option synthInstance.maxSize 4000
namespace Nun
open Go Go.RowKit
def quoteD (l : List UInt8) (k : Nat) : Option (List UInt8 × List UInt8) := quotedL (l.length - k + 1) (l.drop k)
theorem quoteD_zero (l : List UInt8) : quoteD l 0 = quotedL (l.length + 1) l := by simp [quoteD]
theorem quoteD_end (l : List UInt8) (k : Nat) (h : l.length ≤ k) : quoteD l k = none := by
  unfold quoteD; rw [List.drop_of_length_le h]; rfl
theorem quoteD_cons (l : List UInt8) (k : Nat) (h : k < l.length) : quoteD l k = if l[k] = 34 then some ([], l.drop (k + 1)) else if l[k] < 32 ∨ 126 < l[k] then none else if l[k] = 92 then (match l[k + 1]? with
      | none => none
      | some d => if d = 34 ∨ d = 92 then (quoteD l (k + 2)).map fun p => (d :: p.1, p.2) else none)
    else (quoteD l (k + 1)).map fun p => (l[k] :: p.1, p.2) := by
  unfold quoteD
  rw [List.drop_eq_getElem_cons h]
  conv => lhs; unfold quotedL
  rw [show l.length - k = l.length - (k + 1) + 1 by omega]
  by_cases h1 : k + 1 < l.length
  · rw [List.drop_eq_getElem_cons h1, List.getElem?_eq_getElem h1]
    dsimp only
    rw [quotedL_more (l.length - (k + 1) + 1) (l.length - (k + 2) + 1) (l.drop (k + 1 + 1)) (by rw [List.length_drop]; omega) (by rw [List.length_drop]; omega)]
  · rw [List.getElem?_eq_none (by omega), List.drop_of_length_le (show l.length ≤ k + 1 by omega)]
theorem b34 : ∀ c : UInt8, c = 34 → ((c.toNat : Int) == 34) = true := by decide +kernel
theorem b34n : ∀ c : UInt8, ¬ c = 34 → ((c.toNat : Int) == 34) = false := by decide +kernel
theorem b34m : ∀ c : UInt8, ¬ c = 34 → ((c.toNat : Int) != 34) = true := by decide +kernel
theorem b34o : ∀ c : UInt8, c = 34 → ((c.toNat : Int) != 34) = false := by decide +kernel
theorem b92 : ∀ c : UInt8, c = 92 → ((c.toNat : Int) == 92) = true := by decide +kernel
theorem b92n : ∀ c : UInt8, ¬ c = 92 → ((c.toNat : Int) == 92) = false := by decide +kernel
theorem b92m : ∀ c : UInt8, ¬ c = 92 → ((c.toNat : Int) != 92) = true := by decide +kernel
theorem b92o : ∀ c : UInt8, c = 92 → ((c.toNat : Int) != 92) = false := by decide +kernel
theorem b32 : ∀ c : UInt8, c < 32 → (c.toNat : Int) < 32 := by decide +kernel
theorem b32n : ∀ c : UInt8, ¬ c < 32 → ¬ (c.toNat : Int) < 32 := by decide +kernel
theorem b126 : ∀ c : UInt8, 126 < c → (c.toNat : Int) > 126 := by decide +kernel
theorem b126n : ∀ c : UInt8, ¬ 126 < c → ¬ (c.toNat : Int) > 126 := by decide +kernel
theorem slash_ok : ∀ c : UInt8, c = 92 → ¬ (c < 32 ∨ 126 < c) ∧ ¬ c = 34 := by decide +kernel
end Nun
namespace Go.Proofs.YtdfflbpifpoogaaDoor
open Go Go.RowKit Nun
def quotedV (R : Nat) (w : World) : Option (List UInt8 × List UInt8) → Ending → World → Prop
  | none, e, w' => e = .returned (.tuple #[.string ⟨#[]⟩, .bool false]) ∧ w.grownBy w' (some R)
  | some (v, r), e, w' => e = .returned (.tuple #[.string ⟨v.toArray⟩, .bool true]) ∧ Boxed w' R 62 (.string ⟨r.toArray⟩) ∧ w.grownBy w' (some R)
theorem grown_end {w wr : World} {R : Nat} (h : Below w.heap.size w wr) : w.grownBy wr (some R) := grown_of_below h _
set_option maxHeartbeats 2000000 in
set_option maxRecDepth 100000 in
theorem quoted_head (R : Nat) (l : List UInt8) (w : World) (hl : l.length ≤ 1000000) (hb : Boxed w R 62 (.string ⟨l.toArray⟩)) (Q : Option (List UInt8 × List UInt8)) (hQ : quotedL (l.length + 1) l = Q) :
    Calls Tryd.prog 48 #[.pointer (some ⟨R, 0, none⟩)] w (quotedV R w Q) := by
  obtain ⟨s, hs⟩ : ∃ s : ByteArray, (⟨l.toArray⟩ : ByteArray) = s := ⟨_, rfl⟩
  have hls : s.data.toList = l := by rw [← hs]
  have hsz : s.size = l.length := by rw [← hs]; rfl
  rw [hs] at hb
  rw [← quoteD_zero, ← hls] at hQ
  have HQ := Lib.hid hQ
  have hRl := hb.lt
  have hfz := hb.frozen
  rw [← hsz] at hl
  clear hs hls hsz hQ
  go_enter Tryd.func48, Tryd.ntmps48
  go_wp2
  go_step3
  go_wp2
  go_step3
  go_wp2
  go_loopw [4, 5, 6, 20, 23, 30] (fun v i _ _ _ _ wr => ∃ (k : Nat) (acc : List UInt8), i = .int .i64 k ∧ k ≤ s.size ∧ acc.length ≤ k ∧ OwnB w.heap.size 5 v acc wr ∧ Below w.heap.size w wr ∧ Hid (Q = (quoteD s.data.toList k).map fun p => (acc ++ p.1, p.2)))
    (fun _ i _ _ _ _ _ => s.size - (intOf i).toNat)
  case atStart => exact ⟨0, [], rfl, Nat.zero_le _, Nat.le_refl _, OwnB.nil _ _ _, Below.refl _ _, Lib.hid (by rw [HQ.out]; simp)⟩
  case round =>
    obtain ⟨k, acc, rfl, hk, hal, hown, hbel, hq⟩ := hrel
    have hbr : Boxed wr R 62 (.string s) := (hbel.block _ hRl).trans hb
    have hcr := hbr.cell; have hfr := hbr.frozen
    have HBR := Lib.hid hbr; clear hbr
    by_cases hlt : k < s.size
    · have hki : (k : Int) < (s.size : Int) := by omega
      have hkn : ((k : Int) == (s.size : Int)) = false := by rw [beq_eq_false_iff_ne]; omega
      have hq2 := hq.out
      rw [quoteD_cons _ k hlt] at hq2
      have hgs : s.data.toList[k] = s[k] := rfl
      simp only [hgs] at hq2
      by_cases h34 : s[k] = 34
      · rw [if_pos h34] at hq2
        have hx := b34 _ h34
        have HF := Lib.hid hq2
        have hw1 : IntKind.i64.wrap ((k : Int) + 1) = (k : Int) + 1 := IntWalk.i64_in _ (by omega)
        have hw2 : (0 : Int) ≤ (k : Int) + 1 := by omega
        have hw3 : ((k : Int) + 1).toNat = k + 1 := by omega
        have kc := conv_own (P := Tryd.prog) Tryd.underlying35 Tryd.underlying5 Tryd.underlying9 (World.ownsRow.kept hown (grownBy_setCell' wr R (.string (s.extract (k + 1) s.size))) (.inr (fun e => by have := (World.ownsRow.lt hown R e).1; omega)))
        have HSET := Lib.hid (Boxed.set (.string (s.extract (k + 1) s.size)) HBR.out)
        clear hq2 h34
        go_wp2
        go_ret2
        rw [HF.out]
        refine ⟨?_, ?_, (grown_end hbel).trans (grownBy_setCell' _ _ _)⟩
        · simp
        · have e : s.extract (k + 1) s.size = ⟨(s.data.toList.drop (k + 1)).toArray⟩ := by
            apply ByteArray.ext; apply Array.ext'
            rw [Lib.extract_data, List.take_of_length_le (by rw [List.length_drop]; exact Nat.le_refl _)]
          have h := HSET.out
          rw [e] at h ⊢
          exact h
      · have hx := b34n _ h34
        rw [if_neg h34] at hq2
        by_cases hbad : s[k] < 32 ∨ 126 < s[k]
        · rw [if_pos hbad] at hq2
          have HF := Lib.hid hq2
          clear hq2 h34
          rcases hbad with h | h
          · have hy := b32 _ h
            clear h
            go_wp2
            go_ret2
            rw [HF.out]
            exact ⟨rfl, grown_end hbel⟩
          · have hy := b126 _ h
            have hz : ¬ (s[k].toNat : Int) < 32 := by omega
            clear h
            go_wp2
            go_ret2
            rw [HF.out]
            exact ⟨rfl, grown_end hbel⟩
        · rw [if_neg hbad] at hq2
          have hy := b32n _ (fun h => hbad (.inl h))
          have hz := b126n _ (fun h => hbad (.inr h))
          by_cases h92 : s[k] = 92
          · rw [if_pos h92] at hq2
            have hu := b92 _ h92
            have hw1 : IntKind.i64.wrap ((k : Int) + 1) = (k : Int) + 1 := IntWalk.i64_in _ (by omega)
            by_cases hk1 : k + 1 < s.size
            · rw [List.getElem?_eq_getElem (show k + 1 < s.data.toList.length from hk1)] at hq2
              have hgs1 : s.data.toList[k + 1] = s[k + 1] := rfl
              simp only [hgs1] at hq2
              have hki1 : (k : Int) + 1 < (s.size : Int) := by omega
              have hkn1 : ((k : Int) + 1 == (s.size : Int)) = false := by rw [beq_eq_false_iff_ne]; omega
              by_cases hd : s[k + 1] = 34 ∨ s[k + 1] = 92
              · rw [if_pos hd] at hq2
                have HF := Lib.hid (show Q = (quoteD s.data.toList (k + 2)).map fun p => ((acc ++ [s[k + 1]]) ++ p.1, p.2) by rw [hq2]; simp [Function.comp_def])
                clear hq2 h34 hbad h92 hq
                rcases hd with h | h
                · have hv := b34o _ h
                  clear h
                  go_wp2_with (at_builtin; refine pushb (by rfl) _ _ _ (by rfl) 5 Tryd.underlying35 infoByte w.heap.size wr _ _ (by rfl) hown (s[k + 1]) (by rfl) (by omega) hbel.size ?_; intro g cap w1 hg hown1 hgr hb1 hsz1)
                  go_roundw
                  case rel => exact ⟨k + 2, acc ++ [s[k + 1]], by go_num, by omega, by simp; omega, hown1, hbel.trans hb1, HF⟩
                  case measure => simp [intOf]; omega
                · have hv := b92o _ h
                  have hv2 : ((s[k + 1].toNat : Int) != 34) = true := by rw [h]; rfl
                  clear h
                  go_wp2_with (at_builtin; refine pushb (by rfl) _ _ _ (by rfl) 5 Tryd.underlying35 infoByte w.heap.size wr _ _ (by rfl) hown (s[k + 1]) (by rfl) (by omega) hbel.size ?_; intro g cap w1 hg hown1 hgr hb1 hsz1)
                  go_roundw
                  case rel => exact ⟨k + 2, acc ++ [s[k + 1]], by go_num, by omega, by simp; omega, hown1, hbel.trans hb1, HF⟩
                  case measure => simp [intOf]; omega
              · rw [if_neg hd] at hq2
                have HF := Lib.hid hq2
                have hv := b34m _ (fun h => hd (.inl h))
                have hv2 := b92m _ (fun h => hd (.inr h))
                clear hq2 h34 hbad h92 hd
                go_wp2
                go_ret2
                rw [HF.out]
                exact ⟨rfl, grown_end hbel⟩
            · rw [List.getElem?_eq_none (show s.data.toList.length ≤ k + 1 by show s.size ≤ _; omega)] at hq2
              have HF := Lib.hid hq2
              have hkn1 : ((k : Int) + 1 == (s.size : Int)) = true := by rw [beq_iff_eq]; omega
              clear hq2 h34 hbad h92
              go_wp2
              go_ret2
              rw [HF.out]
              exact ⟨rfl, grown_end hbel⟩
          · rw [if_neg h92] at hq2
            have hu := b92n _ h92
            have HF := Lib.hid (show Q = (quoteD s.data.toList (k + 1)).map fun p => ((acc ++ [s[k]]) ++ p.1, p.2) by rw [hq2]; simp [Function.comp_def])
            clear hq2 h34 hbad h92 hq
            go_wp2_with (at_builtin; refine pushb (by rfl) _ _ _ (by rfl) 5 Tryd.underlying35 infoByte w.heap.size wr _ _ (by rfl) hown (s[k]) (by rfl) (by omega) hbel.size ?_; intro g cap w1 hg hown1 hgr hb1 hsz1)
            go_roundw
            case rel => exact ⟨k + 1, acc ++ [s[k]], by go_num, by omega, by simp; omega, hown1, hbel.trans hb1, HF⟩
            case measure => simp [intOf]; omega
    · have hki : ¬ (k : Int) < (s.size : Int) := by omega
      have hkn : ((k : Int) == (s.size : Int)) = true := by rw [beq_iff_eq]; omega
      have HF := Lib.hid (show Q = none by rw [hq.out, quoteD_end _ _ (show s.data.toList.length ≤ k by show s.size ≤ _; omega)]; rfl)
      go_wp2
      go_ret2
      rw [HF.out]
      exact ⟨rfl, grown_end hbel⟩
end Go.Proofs.YtdfflbpifpoogaaDoor
