/- Layer 4, base64: what all its laws share: lines, the first bytes of a text, the page's examples. -/
import Derived.Test.YtbkhgmehfgfmfaaDoorBir
import Derived.Test.YtbkhgmehfgfmfaaDoorLai
set_option linter.unusedVariables false
set_option synthInstance.maxSize 4000
namespace Nun
theorem dig_ten (n : Nat) : dig n ≠ 10 := by
  by_cases h : n < 64
  · exact (show ∀ i : Fin 64, dig i.1 ≠ 10 by decide +kernel) ⟨n, h⟩
  · unfold dig; rw [List.getD_eq_getElem?_getD, List.getElem?_eq_none (by show 64 ≤ n; omega)]; decide
theorem quad_ten (l : List UInt8) : ∀ c ∈ quad l, c ≠ 10 := by
  intro c hc
  unfold quad at hc
  simp only [List.mem_cons, List.not_mem_nil, or_false] at hc
  rcases hc with rfl | rfl | rfl | rfl
  · exact dig_ten _
  · exact dig_ten _
  · split
    · decide
    · exact dig_ten _
  · split
    · decide
    · exact dig_ten _
theorem enc64_ten (n : Nat) : ∀ l : List UInt8, l.length ≤ n → ∀ c ∈ enc64 l, c ≠ 10 := by
  induction n with
  | zero =>
    intro l h
    have : l = [] := List.eq_nil_of_length_eq_zero (by omega)
    subst this; simp [enc64]
  | succ n ih =>
    intro l h
    match l, h with
    | [], _ => simp [enc64]
    | [a], _ => exact quad_ten [a]
    | [a, b], _ => exact quad_ten [a, b]
    | a :: b :: c :: l, h =>
      intro x hx
      rw [enc64, List.mem_append] at hx
      rcases hx with hx | hx
      · exact quad_ten _ x hx
      · exact ih l (by simp at h; omega) x hx
/-- Lines that are not too long, from a line with so many bytes on. -/
def chkM : Nat → List UInt8 → Bool
  | _, [] => true
  | n, c :: l => (decide ((if c = 10 then 0 else n + 1) ≤ 76) || c == 13) && chkM (if c = 10 then 0 else n + 1) l
theorem chkM_app (x : List UInt8) : ∀ (r : List UInt8) (n : Nat), (∀ c ∈ x, c ≠ 10) → n + x.length ≤ 76 → chkM n (x ++ r) = chkM (n + x.length) r := by
  induction x with
  | nil => intro r n _ _; rfl
  | cons c x ih =>
    intro r n hx hn
    have hc := hx c (by simp)
    rw [List.length_cons] at hn
    rw [List.cons_append, chkM, if_neg hc, ih r (n + 1) (fun c h => hx c (by simp [h])) (by omega), List.length_cons]
    rw [show decide (n + 1 ≤ 76) = true by simp; omega, show n + 1 + x.length = n + (x.length + 1) by omega]; rfl
theorem chkM_wrap (n : Nat) : ∀ l : List UInt8, l.length ≤ n → (∀ c ∈ l, c ≠ 10) → chkM 0 (wrapL 75 l) = true := by
  induction n with
  | zero =>
    intro l h _
    have : l = [] := List.eq_nil_of_length_eq_zero (by omega)
    subst this; rw [wrapL_end (by simp)]; rfl
  | succ n ih =>
    intro l h hl
    by_cases hm : 75 + 1 < l.length
    · rw [wrapL_more hm, List.append_assoc, chkM_app _ _ _ (fun c h => hl c (List.mem_of_mem_take h)) (by rw [List.length_take]; omega)]
      have := ih (l.drop (75 + 1)) (by rw [List.length_drop]; omega) (fun c h => hl c (List.mem_of_mem_drop h))
      rw [show (0 : Nat) + (l.take (75 + 1)).length = 76 by rw [List.length_take]; omega]
      show chkM 76 (13 :: 10 :: wrapL 75 (l.drop (75 + 1))) = true
      rw [chkM, chkM]; simpa using this
    · rw [wrapL_end hm]
      have := chkM_app l [] 0 hl (by omega)
      rw [List.append_nil] at this; rw [this]; rfl
theorem wrapL_len (m n : Nat) : ∀ l : List UInt8, l.length ≤ n → (wrapL m l).length ≤ 3 * l.length := by
  induction n with
  | zero => intro l h; rw [wrapL_end (by omega)]; omega
  | succ n ih =>
    intro l h
    by_cases hm : m + 1 < l.length
    · rw [wrapL_more hm]
      have := ih (l.drop (m + 1)) (by rw [List.length_drop]; omega)
      simp only [List.length_append, List.length_take, List.length_drop, List.length_cons, List.length_nil] at this ⊢; omega
    · rw [wrapL_end hm]; omega
theorem bare_id (x : List UInt8) (h : ∀ c ∈ x, soft c = false) : bare x = x := by
  unfold bare; rw [List.filter_eq_self]; intro c hc; rw [h c hc]; rfl
theorem bare_app (x y : List UInt8) : bare (x ++ y) = bare x ++ bare y := by unfold bare; rw [List.filter_append]
theorem bare_wrap (m n : Nat) : ∀ l : List UInt8, l.length ≤ n → (∀ c ∈ l, soft c = false) → bare (wrapL m l) = l := by
  induction n with
  | zero => intro l h hl; rw [wrapL_end (by omega)]; exact bare_id l hl
  | succ n ih =>
    intro l h hl
    by_cases hm : m + 1 < l.length
    · rw [wrapL_more hm, bare_app, bare_app, bare_id _ (fun c h => hl c (List.mem_of_mem_take h)), ih (l.drop (m + 1)) (by rw [List.length_drop]; omega) (fun c h => hl c (List.mem_of_mem_drop h))]
      rw [show bare [13, 10] = [] by decide, List.append_nil, List.take_append_drop]
    · rw [wrapL_end hm]; exact bare_id l hl
theorem dig_hard (n : Nat) : soft (dig n) = false := by
  by_cases h : n < 64
  · exact (show ∀ i : Fin 64, soft (dig i.1) = false by decide +kernel) ⟨n, h⟩
  · unfold dig; rw [List.getD_eq_getElem?_getD, List.getElem?_eq_none (by show 64 ≤ n; omega)]; decide
theorem quad_hard (l : List UInt8) : ∀ c ∈ quad l, soft c = false := by
  intro c hc
  unfold quad at hc
  simp only [List.mem_cons, List.not_mem_nil, or_false] at hc
  rcases hc with rfl | rfl | rfl | rfl
  · exact dig_hard _
  · exact dig_hard _
  · split
    · decide
    · exact dig_hard _
  · split
    · decide
    · exact dig_hard _
theorem enc64_hard (n : Nat) : ∀ l : List UInt8, l.length ≤ n → ∀ c ∈ enc64 l, soft c = false := by
  induction n with
  | zero =>
    intro l h
    have : l = [] := List.eq_nil_of_length_eq_zero (by omega)
    subst this; simp [enc64]
  | succ n ih =>
    intro l h
    match l, h with
    | [], _ => simp [enc64]
    | [a], _ => exact quad_hard [a]
    | [a, b], _ => exact quad_hard [a, b]
    | a :: b :: c :: l, h =>
      intro x hx
      rw [enc64, List.mem_append] at hx
      rcases hx with hx | hx
      · exact quad_hard _ x hx
      · exact ih l (by simp at h; omega) x hx
end Nun
namespace Go.Proofs.YtbkhgmehfgfmfaaDoor
open Go.RowKit Nun
theorem few04 (s : ByteArray) (w : World) (hs : s.size ≤ maxLen) : Calls Tryd.prog 7 #[.string s] w fun e w' => ∃ t : ByteArray, e = .returned (.string t) ∧ t.size ≤ 200 ∧ w = w' := by
  unfold maxLen at hs
  go_enter Tryd.func7, Tryd.ntmps7
  go_wp2
  go_ret
  exact ⟨_, rfl, by simp [ByteArray.size_extract]; omega, rfl⟩
theorem decr_of (s : ByteArray) (o : Option (List UInt8)) (h : dec64 s.data.toList = o) (w : World) (hs : s.size ≤ 100000) : Calls Tryd.prog 10 #[.string s] w (Ret (dec64V o) w) := h ▸ decode_ref64 s w hs
theorem inner_of (s : ByteArray) (n : Int) (l : List UInt8) (h : innerI n s.data.toList = l) (w : World) (hT : Tab w) (hs : s.size ≤ 100000) : Calls Tryd.prog 15 #[.string s, .int .i64 n] w (Ret (.string ⟨l.toArray⟩) w) := h ▸ inner64 s n w hT hs
theorem innerr_of (s : ByteArray) (n : Int) (l : List UInt8) (h : innerI n s.data.toList = l) (w : World) (hs : s.size ≤ 100000) : Calls Tryd.prog 16 #[.string s, .int .i64 n] w (Ret (.string ⟨l.toArray⟩) w) := h ▸ inner_ref s n w hs
theorem wrap_of (s : ByteArray) (n : Int) (l : List UInt8) (h : wrapI n s.data.toList = l) (w : World) (hs : s.size ≤ 1000000) : Calls Tryd.prog 13 #[.string s, .int .i64 n] w (Ret (.string ⟨l.toArray⟩) w) := h ▸ wrap64 s n w hs
theorem wrapr_of (s : ByteArray) (n : Int) (l : List UInt8) (h : wrapI n s.data.toList = l) (w : World) (hs : s.size ≤ 1000000) : Calls Tryd.prog 14 #[.string s, .int .i64 n] w (Ret (.string ⟨l.toArray⟩) w) := h ▸ wrap_ref s n w hs
theorem decA (w : World) : Calls Tryd.prog 9 #[.string ⟨#[84, 87, 69, 61]⟩] w (Ret (.tuple #[.string ⟨#[77, 97]⟩, .int .i64 0]) w) := dec_of ⟨#[84, 87, 69, 61]⟩ [84, 87, 69, 61] (some [77, 97]) rfl (by decide +kernel) w (by decide)
theorem encA (w : World) (hT : Tab w) : Calls Tryd.prog 8 #[.string ⟨#[77, 97, 110]⟩] w (Ret (.string ⟨#[84, 87, 70, 117]⟩) w) := enc_of64 ⟨#[77, 97, 110]⟩ [84, 87, 70, 117] (by decide +kernel) w hT (by decide)
theorem encB (w : World) (hT : Tab w) : Calls Tryd.prog 8 #[.string ⟨#[77]⟩] w (Ret (.string ⟨#[84, 81, 61, 61]⟩) w) := enc_of64 ⟨#[77]⟩ [84, 81, 61, 61] (by decide +kernel) w hT (by decide)
theorem innA (w : World) (hT : Tab w) : Calls Tryd.prog 15 #[.string ⟨#[97, 110]⟩, .int .i64 1] w (Ret (.string ⟨#[70, 117]⟩) w) := inner_of ⟨#[97, 110]⟩ 1 [70, 117] (by decide +kernel) w hT (by decide)
theorem wrapA (w : World) : Calls Tryd.prog 13 #[.string ⟨#[97, 98, 99]⟩, .int .i64 2] w (Ret (.string ⟨#[97, 98, 13, 10, 99]⟩) w) := by
  refine wrap_of ⟨#[97, 98, 99]⟩ 2 [97, 98, 13, 10, 99] ?_ w (by decide)
  show wrapL 1 [97, 98, 99] = _
  rw [wrapL_more (by decide), wrapL_end (by decide)]; rfl
set_option maxHeartbeats 1000000 in
theorem awake04 (w : World) (hT : Tab w) : Calls Tryd.prog 12 #[] w (Ret (.bool true) w) := by
  go_enter Tryd.func12, Tryd.ntmps12
  go_wp2_with (first | (go_at_call 9; (with_reducible refine (decA _).mono ?_); rintro e w1 ⟨rfl, hb1⟩; have hT := hT.kept hb1) | (go_at_call 8; (first | (with_reducible refine (encA _ hT).mono ?_) | (with_reducible refine (encB _ hT).mono ?_)); rintro e w2 ⟨rfl, hb2⟩; have hT := hT.kept hb2) | (go_at_call 15; (with_reducible refine (innA _ hT).mono ?_); rintro e w3 ⟨rfl, hb3⟩; have hT := hT.kept hb3) | (go_at_call 13; (with_reducible refine (wrapA _).mono ?_); rintro e w4 ⟨rfl, hb4⟩))
  go_ret
  exact ⟨rfl, (by repeat (first | assumption | exact Below.refl _ _ | refine below_of ?_ (by assumption)))⟩
end Go.Proofs.YtbkhgmehfgfmfaaDoor
