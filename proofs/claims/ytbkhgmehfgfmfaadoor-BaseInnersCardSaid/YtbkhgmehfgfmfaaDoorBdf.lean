/- b64.Decode. -/
import Derived.Test.YtbkhgmehfgfmfaaDoorBde
import Derived.Test.YtbkhgmehfgfmfaaDoorBwr
set_option linter.unusedVariables false
set_option synthInstance.maxSize 4000
namespace Nun
def dec64 : List UInt8 → Option (List UInt8)
  | [] => some []
  | [_] => none
  | [_, _] => none
  | [_, _, _] => none
  | a :: b :: c :: d :: l => if (fourV [a, b, c, d] l.isEmpty).2 then (dec64 l).map ((fourV [a, b, c, d] l.isEmpty).1 ++ ·) else none
def dec64V (o : Option (List UInt8)) : Go.Value := match o with | some l => .tuple #[.string ⟨l.toArray⟩, .int .i64 0] | none => .tuple #[.string ⟨#[]⟩, .int .i64 7]
@[simp] theorem dec64V_none : dec64V none = .tuple #[.string ⟨#[]⟩, .int .i64 7] := rfl
@[simp] theorem dec64V_some (l : List UInt8) : dec64V (some l) = .tuple #[.string ⟨l.toArray⟩, .int .i64 0] := rfl
theorem dec64_more (l : List UInt8) (h : 4 ≤ l.length) : dec64 l = if (fourV (l.take 4) (l.drop 4).isEmpty).2 then (dec64 (l.drop 4)).map ((fourV (l.take 4) (l.drop 4).isEmpty).1 ++ ·) else none := by
  match l, h with
  | a :: b :: c :: d :: l, _ => rfl
theorem dec64_odd (n : Nat) : ∀ l : List UInt8, l.length ≤ n → l.length % 4 ≠ 0 → dec64 l = none := by
  induction n with
  | zero => intro l h1 h2; omega
  | succ n ih =>
    intro l h1 h2
    match l, h1, h2 with
    | [], _, h2 => exact absurd rfl h2
    | [_], _, _ => rfl
    | [_, _], _, _ => rfl
    | [_, _, _], _, _ => rfl
    | a :: b :: c :: d :: l, h1, h2 =>
      rw [dec64]; split
      · rw [ih l (by simp at h1; omega) (by simp at h2; omega)]; rfl
      · rfl
theorem fourV_len (l : List UInt8) (b : Bool) : (fourV l b).1.length ≤ 3 := by
  unfold fourV; split <;> simp; omega
end Nun
namespace Go.Proofs.YtbkhgmehfgfmfaaDoor
open Go.RowKit Nun
theorem four_of (s : ByteArray) (last : Bool) (x : List UInt8) (ok : Bool) (h : fourV s.data.toList last = (x, ok)) (w : World) (hs : s.size = 4) : Calls Tryd.prog 23 #[.string s, .bool last] w (Ret (.tuple #[.string ⟨x.toArray⟩, .bool ok]) w) := by
  have := four_any s last w hs; rw [h] at this; exact this
set_option maxHeartbeats 1000000 in
theorem decode64 (s : ByteArray) (w : World) (hs : s.size ≤ 1000000) : Calls Tryd.prog 9 #[.string s] w (Ret (dec64V (dec64 s.data.toList)) w) := by
  have hlen : s.data.toList.length = s.size := rfl
  have HL := Lib.hid hlen; clear hlen
  by_cases h4 : s.size % 4 = 0
  · have h4' : (s.size : Int) % 4 = 0 := by omega
    go_enter Tryd.func9, Tryd.ntmps9
    go_wp2
    try rw [h4']
    clear h4'
    go_loopw [5, 6, 7] (fun i _ _ wr => ∃ (k : Nat) (acc : List UInt8), i = .int .i64 (4 * k : Nat) ∧ 4 * k ≤ s.size ∧ Bd w.heap.size w.heap.size acc wr ∧ acc.length ≤ 3 * k ∧ Below w.heap.size w wr ∧ Hid (dec64 s.data.toList = (dec64 (s.data.toList.drop (4 * k))).map (acc ++ ·)))
      (fun i _ _ _ => s.size - (intOf i).toNat)
    case atStart => exact ⟨0, [], rfl, by omega, Bd.fresh w, by simp, (Below.refl _ _).alloc (Nat.le_refl _) _, Lib.hid (by simp)⟩
    case round =>
      obtain ⟨k, acc, rfl, hk, hbd, hak, hbel, hrd⟩ := hrel
      by_cases hlt : 4 * k < s.size
      · have hxs : (s.extract (4 * k) (4 * k + 4)).size = 4 := by rw [ByteArray.size_extract]; omega
        have hxl : (s.extract (4 * k) (4 * k + 4)).data.toList = (s.data.toList.drop (4 * k)).take 4 := by
          rw [Lib.extract_data, Nat.add_sub_cancel_left]
        have hlast : ((s.data.toList.drop (4 * k)).drop 4).isEmpty = decide ((4 * k + 4 : Int) = s.size) := by
          rw [Bool.eq_iff_iff]; simp only [List.isEmpty_iff, decide_eq_true_iff, List.drop_drop, List.drop_eq_nil_iff, HL.out]; omega
        have hst := dec64_more (s.data.toList.drop (4 * k)) (by rw [List.length_drop, HL.out]; omega)
        rw [← hxl, List.drop_drop] at hst
        rw [List.drop_drop] at hlast
        have hlen3 := fourV_len (s.extract (4 * k) (4 * k + 4)).data.toList ((s.data.toList.drop (4 * k + 4)).isEmpty)
        generalize hla : (s.data.toList.drop (4 * k + 4)).isEmpty = la at hst hlast hlen3
        rcases hV : fourV (s.extract (4 * k) (4 * k + 4)).data.toList la with ⟨x, ok⟩
        rw [hV] at hst hlen3
        simp only [] at hst hlen3
        have HV := Lib.hid hV; clear hV hla hxl
        have hbl : (4 * (k : Int) + 4 == (s.size : Int)) = la := by rw [hlast, Bool.eq_iff_iff]; simp
        clear hlast
        have hx2 : (ByteArray.mk x.toArray).size = x.length := rfl
        cases ok
        · have hfin : dec64 s.data.toList = none := by rw [hrd.out, hst]; rfl
          have HF := Lib.hid hfin; clear hfin hst
          go_wp2_with (go_at_call 23; refine (four_of _ _ _ _ HV.out _ hxs).mono ?_; rintro e w1 ⟨rfl, hb1⟩)
          go_ret2
          rw [HF.out]
          exact ⟨rfl, hbel.trans (hb1.mono hbel.size)⟩
        · have HS := Lib.hid hst; clear hst
          go_wp2_with (first | (go_at_call 23; refine (four_of _ _ _ _ HV.out _ hxs).mono ?_; rintro e w1 ⟨rfl, hb1⟩; have hbd := Bd.kept hbd hb1; have hbel := hbel.trans (hb1.mono hbel.size)) | (go_at_call 24; refine (bd_string _ _ _ _ _ hbd (by rw [hx2]; omega)).mono ?_; rintro e w2 ⟨rfl, hbd, hb2, _⟩; have hbel := hbel.trans hb2))
          go_roundw
          case rel =>
            refine ⟨k + 1, acc ++ x, by go_num, by omega, hbd, by simp; omega, hbel, Lib.hid ?_⟩
            rw [hrd.out, HS.out, if_pos trivial, Option.map_map, show 4 * (k + 1) = 4 * k + 4 from rfl]
            congr 1; funext y; simp
          case measure => simp [intOf]; omega
      · have hks : 4 * k = s.size := by omega
        have hfin : dec64 s.data.toList = some acc := by
          rw [hrd.out, List.drop_of_length_le (by rw [HL.out]; omega)]; simp [dec64]
        have HE := Lib.hid hfin; clear hfin
        go_wp2_with (go_at_call 22; refine (bd_text _ _ _ _ hbd).mono ?_; rintro e w2 ⟨rfl, hbd2, hb2, _⟩)
        go_ret2
        rw [HE.out]
        exact ⟨rfl, hbel.trans hb2⟩
  · have hod := dec64_odd s.size s.data.toList (Nat.le_refl _) h4
    rw [hod]; clear hod
    have h4' : ¬ (s.size : Int) % 4 = 0 := by omega
    go_enter Tryd.func9, Tryd.ntmps9
    go_wp2
    go_ret2
    exact ⟨rfl, Below.refl _ _⟩
end Go.Proofs.YtbkhgmehfgfmfaaDoor
