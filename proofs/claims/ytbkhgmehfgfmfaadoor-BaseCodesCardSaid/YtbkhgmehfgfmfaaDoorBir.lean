/- nuncioref04.Inner. -/
import Derived.Test.YtbkhgmehfgfmfaaDoorBip
set_option linter.unusedVariables false
set_option synthInstance.maxSize 4000
namespace Go.Proofs.YtbkhgmehfgfmfaaDoor
open Go Go.RowKit Nun
def RowAt (L : List Nat) (a : Option Addr) (n : Nat) (w : World) : Prop := n = 0 ∨ ∃ g o, a = some ⟨g, o, none⟩ ∧ ∀ (j x : Nat), L[j]? = some x → w.cell? ⟨g, o + j, none⟩ = some (.int .i64 x)
def BitsRow (L : List Nat) (w : World) (e : Ending) (w' : World) : Prop := ∃ a n cap, e = .returned (.slice a n cap) ∧ n = L.length ∧ n ≤ cap ∧ RowAt L a n w' ∧ Below w.heap.size w w'
theorem bits_row (s : ByteArray) (L : List Nat) (h : bitsL s.data.toList = L) (w : World) (hs : s.size ≤ 1000000) : Calls Tryd.prog 26 #[.string s] w (BitsRow L w) := by
  subst h
  refine (bits_ref s w hs).mono ?_
  rintro e w1 ⟨v, rfl, hown, hb⟩
  rcases own_row hown with ⟨rfl, h⟩ | ⟨g, cap, rfl, hc, hr⟩
  · exact ⟨_, _, _, rfl, by rw [h]; rfl, Nat.le_refl _, .inl rfl, hb⟩
  · exact ⟨_, _, _, rfl, rfl, hc, .inr ⟨g, 0, rfl, hr⟩, hb⟩
theorem short_nil {L : List Nat} {V : List UInt8} {q n : Nat} (hV : whole6 (L.drop q) = V) (hn : n = L.length) (h : n < q) : V = [] := by
  rw [← hV, List.drop_of_length_le (by omega), whole6_few (by simp)]
theorem row_all {L : List Nat} {a : Option Addr} {n : Nat} {w : World} (h : RowAt L a n w) : RowAt (L.drop 0) a n w := h
theorem row_end {L : List Nat} {a b : Option Addr} {n k : Nat} {w : World} (h : n ≤ k) : RowAt (L.drop k) b (n - k) w := .inl (by omega)
theorem row_cut {L : List Nat} {a : Option Addr} {n : Nat} {w : World} (h : RowAt L a n w) (k : Nat) : RowAt (L.drop k) (a.map fun x => { block := x.block, off := x.off + k }) (n - k) w := by
  rcases h with h | ⟨g, o, rfl, hr⟩
  · exact .inl (by omega)
  · refine .inr ⟨g, o + k, rfl, fun j x hj => ?_⟩
    rw [List.getElem?_drop] at hj
    have := hr _ _ hj
    rw [← this]; congr 2; omega
set_option maxHeartbeats 2000000 in
theorem inner_ref (s : ByteArray) (n : Int) (w : World) (hs : s.size ≤ 100000) : Calls Tryd.prog 16 #[.string s, .int .i64 n] w (Ret (.string ⟨(innerI n s.data.toList).toArray⟩) w) := by
  by_cases hn : n < 0 ∨ 2 < n
  · have hi : innerI n s.data.toList = [] := by unfold innerI; rw [if_pos hn]
    rw [hi]
    by_cases h1 : n < 0
    · go_enter Tryd.func16, Tryd.ntmps16
      go_wp2
      go_ret
      exact ⟨rfl, Below.refl _ _⟩
    · have h2 : 2 < n := by omega
      go_enter Tryd.func16, Tryd.ntmps16
      go_wp2
      go_ret
      exact ⟨rfl, Below.refl _ _⟩
  · obtain ⟨p, rfl⟩ : ∃ p : Nat, n = p := ⟨n.toNat, by omega⟩
    have hp : p ≤ 2 := by omega
    have hi : innerI (p : Int) s.data.toList = whole6 ((bitsL s.data.toList).drop (lead p)) := by unfold innerI; rw [if_neg hn, Int.toNat_natCast, inner_law p hp]
    rw [hi]; clear hi hn
    have hlen : (bitsL s.data.toList).length = 8 * s.size := bitsL_len _
    have hbit := bitsL_bits s.data.toList
    obtain ⟨L, hL⟩ : ∃ L, bitsL s.data.toList = L := ⟨_, rfl⟩
    have hbits := bits_row s L hL w (by omega)
    rw [hL] at hlen hbit ⊢
    have HBI := Lib.hid hbits; have HB := Lib.hid hbit; have HLen := Lib.hid hlen; clear hbits hbit hL hlen
    obtain ⟨q, hq⟩ : ∃ q, lead p = q := ⟨_, rfl⟩
    rw [hq]
    have hqp : p = 0 ∧ q = 0 ∨ p = 1 ∧ q = 4 ∨ p = 2 ∧ q = 2 := by
      obtain rfl | rfl | rfl : p = 0 ∨ p = 1 ∨ p = 2 := by omega
      all_goals (subst hq; decide)
    clear hq
    obtain ⟨V, hV⟩ : ∃ V, whole6 (L.drop q) = V := ⟨_, rfl⟩
    rw [hV]
    have HV := Lib.hid hV; clear hV
    have HP := Lib.hid hqp; clear hqp
    rcases HP.out with ⟨rfl, rfl⟩ | ⟨rfl, rfl⟩ | ⟨rfl, rfl⟩
    all_goals
      go_enter Tryd.func16, Tryd.ntmps16
      go_wp2_with (go_at_call 26; refine HBI.out.mono ?_; rintro e w1 ⟨a0, n0, cap0, rfl, hn0, hc0, hr0, hb1⟩; have hn8 : n0 ≤ 800000 := (by have := HLen.out; omega); have HN0 := Lib.hid hn0; have HR0 := Lib.hid hr0; clear hn0 hr0)
      all_goals (try (go_ret; refine ⟨r1 (vS ?_), hb1⟩; exact (short_nil HV.out HN0.out (by omega)).symm))
      all_goals
        go_loopw [5, 7] (fun v t wr => ∃ (M : List Nat) (acc : List UInt8) (a : Option Addr) (n cap : Nat), v = .slice a n cap ∧ t = .string ⟨acc.toArray⟩ ∧ wr = w1 ∧ n ≤ cap ∧ acc.length + n ≤ 800000 ∧ Hid (n = M.length) ∧ Hid (∀ x ∈ M, x ≤ 1) ∧ Hid (V = acc ++ whole6 M) ∧ Hid (RowAt M a n w1))
          (fun v _ _ => match v with | .slice _ n _ => n | _ => 0)
      all_goals (try (case atStart =>
        first
          | exact ⟨L.drop 0, [], _, _, _, rfl, rfl, rfl, hc0, by simp; omega, HN0, HB, Lib.hid HV.out.symm, HR0⟩
          | exact ⟨L.drop 4, [], _, _, _, rfl, rfl, rfl, by omega, by simp; omega, Lib.hid (by rw [List.length_drop, ← HN0.out]), Lib.hid (fun x hx => HB.out x (List.mem_of_mem_drop hx)), Lib.hid HV.out.symm, Lib.hid (by first | exact row_cut HR0.out 4 | exact row_end (a := none) (by omega))⟩
          | exact ⟨L.drop 2, [], _, _, _, rfl, rfl, rfl, by omega, by simp; omega, Lib.hid (by rw [List.length_drop, ← HN0.out]), Lib.hid (fun x hx => HB.out x (List.mem_of_mem_drop hx)), Lib.hid HV.out.symm, Lib.hid (by first | exact row_cut HR0.out 2 | exact row_end (a := none) (by omega))⟩))
      all_goals
        obtain ⟨M, acc, a, n, cap, rfl, rfl, rfl, hcap, hsum, hM, hMb, hd, hr⟩ := hrel
        by_cases h6 : 6 ≤ n
        · rcases hr.out with h | ⟨g, o, rfl, hcell⟩
          · omega
          have hmore := Lib.hid (whole6_more (l := M) (by rw [← hM.out]; exact h6))
          have HC := Lib.hid hcell; clear hcell
          have hsz1 : (ByteArray.mk acc.toArray).size = acc.length := rfl
          have hsz2 : (ByteArray.mk #[dig (six M 6)]).size = 1 := rfl
          by_cases hcK : cap = 6
          all_goals
            go_wp2_with (go_at_call 27; refine (digit_ref64 g o _ n M hM.out _ HC.out hMb.out (by omega)).mono ?_; rintro e w' ⟨rfl, rfl⟩)
            go_roundw
            case rel =>
              exact ⟨M.drop 6, acc ++ [dig (six M 6)], _, _, _, rfl, vS (by simp [ByteArray.toList_data_append]), trivial, by omega, by simp; omega, Lib.hid (by rw [List.length_drop, ← hM.out]), Lib.hid (fun x hx => hMb.out x (List.mem_of_mem_drop hx)), Lib.hid (by rw [hd.out, hmore.out]; simp), Lib.hid (by first | exact row_cut hr.out 6 | exact row_end (a := none) (by omega))⟩
            case measure => simp; omega
        · have hV : V = acc := by rw [hd.out, whole6_few (by rw [← hM.out]; exact h6)]; simp
          have HV2 := Lib.hid hV; clear hV
          go_wp2
          go_ret
          exact ⟨r1 (vS HV2.out.symm), hb1⟩
end Go.Proofs.YtbkhgmehfgfmfaaDoor
