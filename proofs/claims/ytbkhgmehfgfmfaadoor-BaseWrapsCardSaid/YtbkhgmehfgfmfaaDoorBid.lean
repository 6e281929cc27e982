/- nuncioref04.digit, Encode, Inner: digits of a row of bits. -/
import Derived.Test.YtbkhgmehfgfmfaaDoorBit
set_option linter.unusedVariables false
set_option synthInstance.maxSize 4000
namespace Nun
theorem six_lt (l : List Nat) (hl : ∀ x ∈ l, x ≤ 1) (i : Nat) : six l i < 2 ^ i := by
  induction i with
  | zero => simp [six]
  | succ i ih =>
    have : (l[i]?).getD 0 ≤ 1 := by
      rcases h : l[i]? with _ | x
      · simp
      · exact hl x (List.mem_of_getElem? h)
    rw [six, Nat.pow_succ]; omega
theorem six_lt64 (l : List Nat) (hl : ∀ x ∈ l, x ≤ 1) (i : Nat) (hi : i ≤ 6) : six l i < 64 := Nat.lt_of_lt_of_le (six_lt l hl i) (Nat.pow_le_pow_right (n := 2) (by decide) hi)
def digs (l : List Nat) : List UInt8 := if h : 0 < l.length then dig (six l 6) :: digs (l.drop 6) else []
termination_by l.length
decreasing_by simp; omega
theorem digs_more {l : List Nat} (h : 0 < l.length) : digs l = dig (six l 6) :: digs (l.drop 6) := by rw [digs, dif_pos h]
theorem digs_nil : digs [] = [] := by rw [digs, dif_neg (by simp)]
theorem digs_len (n : Nat) : ∀ l : List Nat, l.length ≤ n → (digs l).length ≤ l.length := by
  induction n with
  | zero => intro l h
            have : l = [] := List.eq_nil_of_length_eq_zero (by omega)
            subst this; simp [digs_nil]
  | succ n ih =>
    intro l h
    by_cases h0 : 0 < l.length
    · rw [digs_more h0, List.length_cons]
      have := ih (l.drop 6) (by rw [List.length_drop]; omega)
      rw [List.length_drop] at this; omega
    · rw [digs, dif_neg h0]; simp
theorem bitsL_bits (l : List UInt8) : ∀ x ∈ bitsL l, x ≤ 1 := by
  intro x h
  unfold bitsL at h
  obtain ⟨c, _, hc⟩ := List.mem_flatMap.1 h
  simp [bits8] at hc
  omega
def padTo4 (l : List UInt8) : List UInt8 := l ++ List.replicate ((4 - l.length % 4) % 4) 61
theorem dig_ext : ∀ i : Fin 64, ((⟨digits64.toArray⟩ : ByteArray).extract i.1 (i.1 + 1)).data.toList = [dig i.1] := by decide +kernel
end Nun
namespace Go.Proofs.YtbkhgmehfgfmfaaDoor
open Go.RowKit Nun
set_option maxHeartbeats 1000000 in
theorem digits_ref (w : World) : Calls Tryd.prog 31 #[] w (Same (.string ⟨digits64.toArray⟩) w) := by
  go_enter Tryd.func31, Tryd.ntmps31
  go_wp2
  go_ret
  exact ⟨rfl, rfl⟩
set_option maxHeartbeats 1000000 in
theorem digit_ref64 (g o cap n : Nat) (l : List Nat) (hn : n = l.length) (w : World) (hr : ∀ (j x : Nat), l[j]? = some x → w.cell? ⟨g, o + j, none⟩ = some (.int .i64 x)) (hb : ∀ x ∈ l, x ≤ 1) (hc : n ≤ 1000000000) :
    Calls Tryd.prog 27 #[.slice (some ⟨g, o, none⟩) n cap] w (Same (.string ⟨#[dig (six l 6)]⟩) w) := by
  have HR := Lib.hid hr; clear hr
  have HB := Lib.hid hb; clear hb
  have HN := Lib.hid hn; clear hn
  have hx := dig_ext ⟨six l 6, six_lt64 l HB.out 6 (by decide)⟩
  have HX := Lib.hid hx; clear hx
  go_enter Tryd.func27, Tryd.ntmps27
  go_wp2
  go_loopw [3, 4] (fun m i wr => ∃ (k : Nat), k ≤ 6 ∧ i = .int .i64 k ∧ m = .int .i64 (six l k) ∧ wr = w)
    (fun _ i _ => 6 - (intOf i).toNat)
  case atStart => exact ⟨0, by omega, rfl, rfl, rfl⟩
  case round =>
    obtain ⟨k, hk, rfl, rfl, rfl⟩ := hrel
    have h64 := six_lt64 l HB.out k hk
    by_cases h6 : k < 6
    · by_cases hkn : k < n
      · obtain ⟨x, hx⟩ : ∃ x, l[k]? = some x := ⟨_, List.getElem?_eq_getElem (by rw [← HN.out]; exact hkn)⟩
        have hcell := HR.out k x hx
        have hx1 := HB.out x (List.mem_of_getElem? hx)
        have hsx : ((six l (k + 1) : Nat) : Int) = 2 * six l k + x := by rw [six, hx]; simp
        have HS := Lib.hid hsx; clear hsx hx
        go_wp2
        go_roundw
        case rel => exact ⟨k + 1, by omega, by go_num, vi (by rw [HS.out]), trivial⟩
        case measure => simp [intOf]; omega
      · have hsx : ((six l (k + 1) : Nat) : Int) = 2 * six l k := by rw [six, List.getElem?_eq_none (by rw [← HN.out]; omega)]; simp
        have HS := Lib.hid hsx; clear hsx
        go_wp2
        go_roundw
        case rel => exact ⟨k + 1, by omega, by go_num, vi (by rw [HS.out]), trivial⟩
        case measure => simp [intOf]; omega
    · obtain rfl : k = 6 := by omega
      have hds : (ByteArray.mk digits64.toArray).size = 64 := rfl
      go_wp2_with (go_at_call 31; refine (digits_ref _).mono ?_; rintro e w' ⟨rfl, rfl⟩)
      go_ret
      exact ⟨r1 (vS HX.out), rfl⟩
theorem own_row {B : Nat} {e : TypeId} {v : Value} {l : List Nat} {w : World} (h : OwnN B e v l w) : (v = .slice none 0 0 ∧ l = []) ∨ ∃ g cap, v = .slice (some ⟨g, 0, none⟩) l.length cap ∧ l.length ≤ cap ∧ ∀ (j x : Nat), l[j]? = some x → w.cell? ⟨g, 0 + j, none⟩ = some (.int .i64 x) := by
  rcases h.2 with ⟨hv, h0⟩ | ⟨g, cap, cur, rfl, hg, hh, hc, _⟩
  · exact .inl ⟨hv, List.eq_nil_of_length_eq_zero h0⟩
  · refine .inr ⟨g, cap, rfl, hc, fun j x hj => ?_⟩
    have := World.ownsRow.cells h (g := g) rfl j (.int .i64 x) (by simp [natCells, hj])
    have ha : (⟨g, 0, none⟩ : Addr).add j = ⟨g, 0 + j, none⟩ := by unfold Addr.add; split <;> simp_all
    rw [ha] at this; exact this
theorem add_at (g o k : Nat) : (⟨g, o, none⟩ : Addr).add k = ⟨g, o + k, none⟩ := by unfold Addr.add; split <;> simp_all
set_option maxHeartbeats 2000000 in
theorem encode_ref (s : ByteArray) (w : World) (hs : s.size ≤ 1000000) : Calls Tryd.prog 11 #[.string s] w (Ret (.string ⟨(padTo4 (digs (bitsL s.data.toList))).toArray⟩) w) := by
  have hlen : (bitsL s.data.toList).length = 8 * s.size := bitsL_len _
  have hbit := bitsL_bits s.data.toList
  have hds := digs_len (8 * s.size) (bitsL s.data.toList) (by omega)
  have hbits := bits_ref s w hs
  generalize bitsL s.data.toList = L at *
  have HBI := Lib.hid hbits; have HB := Lib.hid hbit; clear hbits hbit
  go_enter Tryd.func11, Tryd.ntmps11
  go_wp2_with (go_at_call 26; refine HBI.out.mono ?_; rintro e w1 ⟨v, rfl, hown, hb1⟩)
  obtain ⟨a0, n0, cap0, rfl, hn0, hc0, hr0⟩ : ∃ a0 n0 cap0, v = .slice a0 n0 cap0 ∧ n0 = L.length ∧ n0 ≤ cap0 ∧ (n0 = 0 ∨ ∃ g o, a0 = some ⟨g, o, none⟩ ∧ ∀ (j x : Nat), L[j]? = some x → w1.cell? ⟨g, o + j, none⟩ = some (.int .i64 x)) := by
    rcases own_row hown with ⟨rfl, rfl⟩ | ⟨g, cap, rfl, hc, hr⟩
    · exact ⟨_, _, _, rfl, rfl, Nat.le_refl _, .inl rfl⟩
    · exact ⟨_, _, _, rfl, rfl, hc, .inr ⟨g, 0, rfl, hr⟩⟩
  clear hown
  have HR0 := Lib.hid hr0; clear hr0
  have hn8 : n0 ≤ 8000000 := by omega
  have HN0 := Lib.hid hn0; clear hn0 hlen
  go_loopw [3, 4] (fun v t wr => ∃ (M : List Nat) (acc : List UInt8) (a : Option Addr) (n cap : Nat), v = .slice a n cap ∧ t = .string ⟨acc.toArray⟩ ∧ wr = w1 ∧ n = M.length ∧ n ≤ cap ∧ acc.length + n ≤ 8000000 ∧ Hid (∀ x ∈ M, x ≤ 1) ∧ Hid (digs L = acc ++ digs M) ∧ Hid (n = 0 ∨ ∃ g o, a = some ⟨g, o, none⟩ ∧ ∀ (j x : Nat), M[j]? = some x → w1.cell? ⟨g, o + j, none⟩ = some (.int .i64 x)))
    (fun v _ _ => match v with | .slice _ n _ => n | _ => 0)
  case atStart => exact ⟨L, [], a0, n0, cap0, rfl, rfl, rfl, HN0.out, hc0, by simpa using hn8, HB, Lib.hid rfl, HR0⟩
  case round =>
    obtain ⟨M, acc, a, n, cap, rfl, rfl, rfl, hn, hcap, hn8, HM, hd, hr⟩ := hrel
    by_cases hlt : 0 < n
    · rcases hr.out with h | ⟨g, o, rfl, hcell⟩
      · omega
      have hmore := digs_more (l := M) (by omega)
      have hmin : min 6 ((n : Nat) : Int) = ((min 6 n : Nat) : Int) := by omega
      have hK1 : 1 ≤ min 6 n := by omega
      have hK2 : min 6 n ≤ n := by omega
      have hK3 : min 6 n ≤ 6 := by omega
      have hKc : min 6 n = 6 ∨ min 6 n = n := by omega
      have hM := Lib.hid hn; clear hn
      generalize min 6 n = K at *
      have hmore' := Lib.hid hmore; clear hmore hr
      have hcell' := Lib.hid hcell; clear hcell
      have hadd := add_at g o K
      have hsz1 : (ByteArray.mk acc.toArray).size = acc.length := rfl
      have hsz2 : (ByteArray.mk #[dig (six M 6)]).size = 1 := rfl
      by_cases hcK : cap = K
      · subst hcK
        go_wp2_with (go_at_call 27; refine (digit_ref64 g o _ n M hM.out _ hcell'.out HM.out (by omega)).mono ?_; rintro e w' ⟨rfl, rfl⟩)
        go_roundw
        case rel =>
          refine ⟨M.drop 6, acc ++ [dig (six M 6)], _, _, _, rfl, vS (by simp [ByteArray.toList_data_append]), trivial, ?_, by omega, ?_, Lib.hid (fun x hx => HM.out x (List.mem_of_mem_drop hx)), Lib.hid (by rw [hd.out, hmore'.out]; simp), Lib.hid (.inl (by omega))⟩
          · rw [List.length_drop, ← hM.out]; omega
          · simp; omega
        case measure => simp; omega
      · go_wp2_with (go_at_call 27; refine (digit_ref64 g o _ n M hM.out _ hcell'.out HM.out (by omega)).mono ?_; rintro e w' ⟨rfl, rfl⟩)
        go_roundw
        case rel =>
          refine ⟨M.drop 6, acc ++ [dig (six M 6)], _, _, _, rfl, vS (by simp [ByteArray.toList_data_append]), trivial, ?_, by omega, ?_, Lib.hid (fun x hx => HM.out x (List.mem_of_mem_drop hx)), Lib.hid (by rw [hd.out, hmore'.out]; simp), Lib.hid ?_⟩
          · rw [List.length_drop, ← hM.out]; omega
          · simp; omega
          · rcases hKc with h6 | hKn
            · refine .inr ⟨g, o + K, by simp [hadd], fun j x hj => ?_⟩
              rw [List.getElem?_drop] at hj
              have := hcell'.out _ _ hj
              rw [← this, h6]; congr 2; omega
            · exact .inl (by omega)
        case measure => simp; omega
    · have hM0 : M = [] := List.eq_nil_of_length_eq_zero (by omega)
      have hD : digs L = acc := by rw [hd.out, hM0, digs_nil]; simp
      have HD := Lib.hid hD; clear hD
      have hpad : padTo4 (digs L) = acc ++ List.replicate ((4 - acc.length % 4) % 4) 61 := by rw [HD.out]; rfl
      have HP := Lib.hid hpad; clear hpad
      go_wp2
      go_loopw [4] (fun t wr1 => ∃ (i : Nat) (u : ByteArray), i ≤ (4 - acc.length % 4) % 4 ∧ t = .string u ∧ u.size = acc.length + i ∧ Hid (u.data.toList = acc ++ List.replicate i 61) ∧ wr1 = wr)
        (fun t _ => match t with | .string b => acc.length + 4 - b.size | _ => 0)
      case atStart => exact ⟨0, _, by omega, rfl, rfl, Lib.hid (by simp), rfl⟩
      case round =>
        obtain ⟨i, u, hi, rfl, hu, hul, rfl⟩ := hrel
        by_cases hip : i < (4 - acc.length % 4) % 4
        · have hne : ¬ ((acc.length : Int) + i) % 4 = 0 := by omega
          go_wp2
          go_roundw
          case rel => exact ⟨i + 1, _, by omega, rfl, by rw [ByteArray.size_append, hu]; rfl, Lib.hid (by rw [ByteArray.toList_data_append, hul.out, List.replicate_succ', List.append_assoc]), trivial⟩
          case measure =>
            have h1 : (ByteArray.mk #[61]).size = 1 := rfl
            simp only [ByteArray.size_append, h1]; omega
        · have hne : ((acc.length : Int) + i) % 4 = 0 := by omega
          have hip' : i = (4 - acc.length % 4) % 4 := by omega
          have hfin : u.data.toList = padTo4 (digs L) := by rw [hul.out, HP.out, hip']
          have HF := Lib.hid hfin; clear hfin hip'
          go_wp2
          go_ret
          exact ⟨r1 (vS HF.out), hb1⟩
end Go.Proofs.YtbkhgmehfgfmfaaDoor
