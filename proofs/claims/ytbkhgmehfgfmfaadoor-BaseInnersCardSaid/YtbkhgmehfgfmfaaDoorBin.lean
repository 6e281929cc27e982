/- b64.Inner. -/
import Derived.Test.YtbkhgmehfgfmfaaDoorBva
set_option linter.unusedVariables false
set_option synthInstance.maxSize 4000
namespace Nun
/-- The digits that are sure, phase 0, 1 or 2. -/
def innerL (p : Nat) (l : List UInt8) : List UInt8 := ((enc64 (List.replicate p 0 ++ l)).drop ((4 * p + 2) / 3)).take ((p + l.length) * 8 / 6 - (4 * p + 2) / 3)
def innerI (n : Int) (l : List UInt8) : List UInt8 := if n < 0 ∨ 2 < n then [] else innerL n.toNat l
theorem cut_nil (E : List UInt8) (a b : Nat) (h : a = 0) : List.take a (List.drop b E) = [] := by subst h; rfl
theorem cut_eq (E : List UInt8) (a b a' b' : Nat) (h : a = a') (h' : b = b') : List.take a (List.drop b E) = List.take a' (List.drop b' E) := by subst h; subst h'; rfl
theorem enc64_len' (n : Nat) : ∀ l : List UInt8, l.length ≤ n → (enc64 l).length = (l.length + 2) / 3 * 4 := by
  induction n with
  | zero => intro l h
            have : l = [] := List.eq_nil_of_length_eq_zero (by omega)
            subst this; simp [enc64]
  | succ n ih =>
    intro l h
    match l, h with
    | [], _ => simp [enc64]
    | [a], _ => simp [enc64, quad_len]
    | [a, b], _ => simp [enc64, quad_len]
    | a :: b :: c :: l, h => rw [enc64, List.length_append, quad_len, ih l (by simp at h; omega)]; simp; omega
end Nun
namespace Go.Proofs.YtbkhgmehfgfmfaaDoor
open Go.RowKit Nun
set_option maxHeartbeats 1000000 in
theorem repeat_any (p : Nat) (hp : p ≤ 2) (w : World) : Calls Tryd.prog 28 #[.string ⟨#[0]⟩, .int .i64 p] w (Ret (.string ⟨(List.replicate p (0 : UInt8)).toArray⟩) w) := by
  obtain rfl | rfl | rfl : p = 0 ∨ p = 1 ∨ p = 2 := by omega
  · exact (Tryd.strings_Repeat_zero ⟨#[0]⟩ w).mono fun e w' ⟨he, hw⟩ => ⟨he, hw ▸ Below.refl _ _⟩
  · exact (Tryd.strings_Repeat_one ⟨#[0]⟩ w).mono fun e w' ⟨he, hw⟩ => ⟨he, hw ▸ Below.refl _ _⟩
  · exact (Tryd.strings_Repeat_main ⟨#[0]⟩ 2 w (by decide) (by decide) (by decide) (by decide)).mono fun e w' ⟨he, hw⟩ => ⟨he, hw⟩
theorem enc_of64 (t : ByteArray) (l : List UInt8) (ht : enc64 t.data.toList = l) (w : World) (hT : Tab w) (hs : t.size ≤ 1000000) : Calls Tryd.prog 8 #[.string t] w (Ret (.string ⟨l.toArray⟩) w) := ht ▸ encode64 t w hT hs
set_option maxHeartbeats 1000000 in
theorem inner64 (s : ByteArray) (n : Int) (w : World) (hT : Tab w) (hs : s.size ≤ 100000) : Calls Tryd.prog 15 #[.string s, .int .i64 n] w (Ret (.string ⟨(innerI n s.data.toList).toArray⟩) w) := by
  by_cases hn : n < 0 ∨ 2 < n
  · have hi : innerI n s.data.toList = [] := by unfold innerI; rw [if_pos hn]
    rw [hi]
    by_cases h1 : n < 0
    · go_enter Tryd.func15, Tryd.ntmps15
      go_wp2
      go_ret
      exact ⟨rfl, Below.refl _ _⟩
    · have h2 : 2 < n := by omega
      go_enter Tryd.func15, Tryd.ntmps15
      go_wp2
      go_ret
      exact ⟨rfl, Below.refl _ _⟩
  · obtain ⟨p, rfl⟩ : ∃ p : Nat, n = p := ⟨n.toNat, by omega⟩
    have hp : p ≤ 2 := by omega
    have hi : innerI (p : Int) s.data.toList = innerL p s.data.toList := by unfold innerI; rw [if_neg hn, Int.toNat_natCast]
    rw [hi]
    have hel := enc64_len' _ (List.replicate p 0 ++ s.data.toList) (Nat.le_refl _)
    have hlen : (List.replicate p (0 : UInt8) ++ s.data.toList).length = p + s.size := by rw [List.length_append, List.length_replicate]; rfl
    rw [hlen] at hel
    have hin : innerL p s.data.toList = ((enc64 (List.replicate p 0 ++ s.data.toList)).drop ((4 * p + 2) / 3)).take ((p + s.size) * 8 / 6 - (4 * p + 2) / 3) := rfl
    generalize innerL p s.data.toList = V at *
    generalize hE : enc64 (List.replicate p 0 ++ s.data.toList) = E at *
    have hE' : enc64 ((ByteArray.mk (List.replicate p (0 : UInt8)).toArray) ++ s).data.toList = E := by rw [← hE, ByteArray.toList_data_append]
    have hez : (ByteArray.mk E.toArray).size = (p + s.size + 2) / 3 * 4 := hel
    have HE := Lib.hid hE'; have HI := Lib.hid hin; clear hE hE' hin hi hel hlen hn
    have hrz : (ByteArray.mk (List.replicate p (0 : UInt8)).toArray).size = p := by show (List.replicate p (0 : UInt8)).length = p; simp
    obtain rfl | rfl | rfl : p = 0 ∨ p = 1 ∨ p = 2 := by omega
    all_goals
      go_enter Tryd.func15, Tryd.ntmps15
      go_wp2_with (first | (go_at_call 28; refine (repeat_any _ hp _).mono ?_; rintro e w1 ⟨rfl, hb1⟩) | (go_at_call 8; refine (enc_of64 _ _ HE.out _ (hT.kept hb1) (by rw [ByteArray.size_append, hrz]; omega)).mono ?_; rintro e w2 ⟨rfl, hb2⟩))
    all_goals
      go_ret
      rw [HI.out]
      refine ⟨r1 (vS ?_), below_of hb1 hb2⟩
      first
        | (rw [Lib.extract_data] <;> exact cut_eq E _ _ _ _ (by omega) (by omega))
        | (symm; apply cut_nil; omega)
end Go.Proofs.YtbkhgmehfgfmfaaDoor
