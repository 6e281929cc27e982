/- nuncioref04.value, Decode. -/
import Derived.Test.YtbkhgmehfgfmfaaDoorBpn
set_option linter.unusedVariables false
set_option synthInstance.maxSize 4000
namespace Nun
theorem dig_get (k : Nat) (h : k < 64) : (ByteArray.mk digits64.toArray)[k]'(by show k < digits64.length; exact h) = dig k := by
  have : ∀ i : Fin 64, (ByteArray.mk digits64.toArray)[i.1]'(by show i.1 < digits64.length; exact i.2) = dig i.1 := by decide +kernel
  exact this ⟨k, h⟩
theorem bitsOf_snoc (l : List UInt8) (c : UInt8) : bitsOf (l ++ [c]) = bitsOf l ++ (match val64 c with | some n => bits6 n | none => []) := by unfold bitsOf; rw [List.flatMap_append]; cases h : val64 c <;> simp [h]
theorem bitsOf_len (l : List UInt8) : (bitsOf l).length ≤ 6 * l.length := by
  induction l with
  | nil => simp [bitsOf]
  | cons c l ih =>
    show ((match val64 c with | some n => bits6 n | none => []) ++ bitsOf l).length ≤ _
    rw [List.length_append, List.length_cons]
    have : (match val64 c with | some n => bits6 n | none => []).length ≤ 6 := by split <;> simp [bits6]
    omega
theorem eight_lt (l : List Nat) (hl : ∀ x ∈ l, x ≤ 1) (i : Nat) (hi : i ≤ 8) : eight l i < 256 := by
  have : ∀ i, eight l i < 2 ^ i := by
    intro i
    induction i with
    | zero => simp [eight]
    | succ i ih =>
      have : (l[i]?).getD 0 ≤ 1 := by
        rcases h : l[i]? with _ | x
        · simp
        · exact hl x (List.mem_of_getElem? h)
      rw [eight, Nat.pow_succ]; omega
  exact Nat.lt_of_lt_of_le (this i) (Nat.pow_le_pow_right (n := 2) (by decide) hi)
theorem bitsOf_bits (l : List UInt8) : ∀ x ∈ bitsOf l, x ≤ 1 := by
  intro x h
  unfold bitsOf at h
  obtain ⟨c, _, hc⟩ := List.mem_flatMap.1 h
  cases hv : val64 c <;> simp [hv, bits6] at hc
  omega
theorem bits6_snoc (c : Nat) (j : Nat) (h : j < 6) : (bits6 c).take (j + 1) = (bits6 c).take j ++ [(bits6 c).getD j 0] := by
  rw [List.take_succ_eq_append_getElem (by simpa [bits6] using h)]; simp [List.getD, List.getElem?_eq_getElem (l := bits6 c) (i := j) (by simpa [bits6] using h)]
end Nun
namespace Go.Proofs.YtbkhgmehfgfmfaaDoor
open Go.RowKit Nun
set_option maxHeartbeats 1000000 in
theorem value_ref (c : UInt8) (w : World) : Calls Tryd.prog 25 #[.int .u8 c.toNat] w (Same (.int .i64 ((val64 c).getD 64 : Nat)) w) := by
  have hds : (ByteArray.mk digits64.toArray).size = 64 := rfl
  generalize hV : (val64 c).getD 64 = V
  have HV := Lib.hid hV; clear hV
  go_enter Tryd.func25, Tryd.ntmps25
  go_wp2_with (go_at_call 31; refine (digits_ref _).mono ?_; rintro e w' ⟨rfl, rfl⟩)
  go_loopw [4] (fun i wr => ∃ (k : Nat), k ≤ 64 ∧ i = .int .i64 k ∧ Hid (∀ j, j < k → dig j ≠ c) ∧ wr = w)
    (fun i _ => 64 - (intOf i).toNat)
  case atStart => exact ⟨0, by omega, rfl, Lib.hid (fun j h => by omega), rfl⟩
  case round =>
    obtain ⟨k, hk, rfl, hno, rfl⟩ := hrel
    by_cases hlt : k < 64
    · have hg := dig_get k hlt
      by_cases hc : dig k = c
      · have hv : V = k := by rw [← HV.out, ← hc, val_dig hlt]; rfl
        have q : (((ByteArray.mk digits64.toArray)[k]'(by rw [hds]; exact hlt)).toNat == (c.toNat : Int)) = true := by rw [hg, hc]; simp
        have hv' := Lib.hid hv; clear hv hc hg
        go_wp2
        go_ret
        rw [hv'.out]
        exact ⟨rfl, rfl⟩
      · have hn : ∀ j, j < k + 1 → dig j ≠ c := fun j hj => by
          by_cases e : j = k
          · exact e ▸ hc
          · exact hno.out j (by omega)
        have hn' := Lib.hid hn; clear hn
        have q : ((((ByteArray.mk digits64.toArray)[k]'(by rw [hds]; exact hlt)).toNat : Int) == (c.toNat : Int)) = false := by
          rw [hg]; simp [← UInt8.toNat_inj] at hc ⊢; omega
        clear hc hg
        go_wp2
        go_roundw
        case rel => exact ⟨k + 1, by omega, by go_num, hn', trivial⟩
        case measure => simp [intOf]; omega
    · have hk64 : k = 64 := by omega
      have hv : V = 64 := by
        rw [← HV.out]
        rcases h : val64 c with _ | n
        · rfl
        · exact absurd (dig_val h) (hno.out n (by have := val64_lt _ _ h; omega))
      have hv' := Lib.hid hv; clear hv
      go_wp2
      go_ret
      rw [hv'.out]
      exact ⟨rfl, rfl⟩
theorem value_of (c : UInt8) (o : Option Nat) (h : val64 c = o) (w : World) : Calls Tryd.prog 25 #[.int .u8 c.toNat] w (Same (.int .i64 (o.getD 64 : Nat)) w) := h ▸ value_ref c w
theorem encode_of (s : ByteArray) (l : List UInt8) (h : padTo4 (digs (bitsL s.data.toList)) = l) (w : World) (hs : s.size ≤ 1000000) : Calls Tryd.prog 11 #[.string s] w (Ret (.string ⟨l.toArray⟩) w) := h ▸ encode_ref s w hs
set_option maxHeartbeats 2000000 in
theorem decode_ref64 (s : ByteArray) (w : World) (hs : s.size ≤ 100000) : Calls Tryd.prog 10 #[.string s] w (Ret (dec64V (dec64 s.data.toList)) w) := by
  have hlen : s.data.toList.length = s.size := rfl
  have HL := Lib.hid hlen; clear hlen
  generalize hV : dec64 s.data.toList = V
  have HV := Lib.hid hV; clear hV
  go_enter Tryd.func10, Tryd.ntmps10
  go_wp2
  go_loopw [4, 5, 6, 7] (fun v i _ _ wr => ∃ (k : Nat), k ≤ s.size ∧ i = .int .i64 k ∧ OwnN w.heap.size 3 v (bitsOf (s.data.toList.take k)) wr ∧ Below w.heap.size w wr)
    (fun _ i _ _ _ => s.size - (intOf i).toNat)
  case atStart => exact ⟨0, Nat.zero_le _, rfl, OwnN.made w (Nat.le_refl _) _ _ rfl (by decide), (Below.refl _ _).alloc (Nat.le_refl _) _⟩
  case round =>
    obtain ⟨k, hk, rfl, hown, hbel⟩ := hrel
    have hbl : (bitsOf (s.data.toList.take k)).length ≤ 6 * k := by have := bitsOf_len (s.data.toList.take k); rw [List.length_take] at this; omega
    by_cases hlt : k < s.size
    · have hst : bitsOf (s.data.toList.take (k + 1)) = bitsOf (s.data.toList.take k) ++ (match val64 s[k] with | some n => bits6 n | none => []) := by
        rw [take_snoc _ _ (by rw [HL.out]; exact hlt), bitsOf_snoc]; rfl
      generalize bitsOf (s.data.toList.take k) = acc at *
      rcases hv : val64 s[k] with _ | n
      · rw [hv] at hst
        simp only [List.append_nil] at hst
        have HS := Lib.hid hst; have Hv := Lib.hid hv; clear hst hv
        go_wp2_with (go_at_call 25; refine (value_of _ _ Hv.out _).mono ?_; rintro e w' ⟨rfl, rfl⟩)
        go_loopw [4, 7] (fun v q wr1 => q = .int .i64 32 ∧ OwnN w.heap.size 3 v acc wr1 ∧ Below w.heap.size w wr1) (fun _ q _ => (intOf q).toNat)
        case atStart => exact ⟨rfl, hown, hbel⟩
        case round =>
          clear hown hbel
          obtain ⟨rfl, hown, hbel⟩ := hrel
          rw [← HS.out] at hown
          go_wp2
          go_roundw
          case rel => exact ⟨k + 1, by omega, by go_num, hown, hbel⟩
          case measure => simp [intOf]; omega
      · rw [hv] at hst
        simp only [] at hst
        have hn64 := val64_lt _ _ hv
        have HS := Lib.hid hst; have Hv := Lib.hid hv; clear hst hv
        go_wp2_with (go_at_call 25; refine (value_of _ _ Hv.out _).mono ?_; rintro e w' ⟨rfl, rfl⟩)
        go_loopw [4, 7] (fun v q wr1 => ∃ (j : Nat), j ≤ 6 ∧ q = .int .i64 ((32 / 2 ^ j : Nat) : Int) ∧ OwnN w.heap.size 3 v (acc ++ (bits6 n).take j) wr1 ∧ Below w.heap.size w wr1)
          (fun _ q _ => (intOf q).toNat)
        case atStart => exact ⟨0, by omega, rfl, by simpa using hown, hbel⟩
        case round =>
          clear hown hbel
          obtain ⟨j, hj, rfl, hown, hbel⟩ := hrel
          by_cases hj6 : j < 6
          · obtain ⟨b, hb⟩ : ∃ b, (bits6 n).getD j 0 = b := ⟨_, rfl⟩
            have hsn := bits6_snoc n j hj6
            rw [hb] at hsn
            have hsn' := Lib.hid (show acc ++ (bits6 n).take (j + 1) = acc ++ (bits6 n).take j ++ [b] by rw [hsn, List.append_assoc]); clear hsn
            have hl : ((acc ++ (bits6 n).take j).length + 1) * 8 ≤ 140737488355328 := by
              rw [List.length_append, List.length_take]; omega
            have HB := Lib.hid hb; clear hb
            have hl' := Lib.hid hl; clear hl
            obtain rfl | rfl | rfl | rfl | rfl | rfl : j = 0 ∨ j = 1 ∨ j = 2 ∨ j = 3 ∨ j = 4 ∨ j = 5 := by omega
            all_goals
              go_wp2_with (at_builtin; refine pushn (by rfl) _ _ _ (by rfl) 3 Tryd.underlying46 infoInt w.heap.size wr _ _ (by rfl) hown _ b (by rw [← HB.out]; simp [bits6]) (by rfl) hl'.out hbel.size ?_; intro v1 w1 hown1 hgr hb1 hsz1)
              go_roundw
              case rel =>
                have hrow := hown1
                rw [← hsn'.out] at hrow
                first | exact ⟨1, by omega, by go_num, hrow, hbel.trans hb1⟩ | exact ⟨2, by omega, by go_num, hrow, hbel.trans hb1⟩ | exact ⟨3, by omega, by go_num, hrow, hbel.trans hb1⟩ | exact ⟨4, by omega, by go_num, hrow, hbel.trans hb1⟩ | exact ⟨5, by omega, by go_num, hrow, hbel.trans hb1⟩ | exact ⟨6, by omega, by go_num, hrow, hbel.trans hb1⟩
              case measure => simp [intOf]
          · obtain rfl : j = 6 := by omega
            have he : acc ++ (bits6 n).take 6 = bitsOf (s.data.toList.take (k + 1)) := by rw [HS.out]; rfl
            rw [he] at hown
            clear he
            go_wp2
            go_roundw
            case rel => exact ⟨k + 1, by omega, by go_num, hown, hbel⟩
            case measure => simp [intOf]; omega
    · obtain rfl : k = s.size := by omega
      rw [List.take_of_length_le (by rw [HL.out]; exact Nat.le_refl _)] at hown hbl
      obtain ⟨w2, hw2⟩ : ∃ w2, w2 = wr := ⟨_, rfl⟩
      subst hw2
      have hbit := bitsOf_bits s.data.toList
      have hlaw := dec_law s.data.toList
      rw [HV.out] at hlaw
      generalize bitsOf s.data.toList = L at *
      have HLAW := Lib.hid hlaw; clear hlaw
      obtain ⟨a0, n0, cap0, rfl, hn0, hc0, hr0⟩ : ∃ a0 n0 cap0, u4 = .slice a0 n0 cap0 ∧ n0 = L.length ∧ n0 ≤ cap0 ∧ (n0 = 0 ∨ ∃ g o, a0 = some ⟨g, o, none⟩ ∧ g < w2.heap.size ∧ ∀ (j x : Nat), L[j]? = some x → w2.cell? ⟨g, o + j, none⟩ = some (.int .i64 x)) := by
        rcases own_row hown with ⟨rfl, rfl⟩ | ⟨g, cap, rfl, hc, hr⟩
        · exact ⟨_, _, _, rfl, rfl, Nat.le_refl _, .inl rfl⟩
        · by_cases h0 : L.length = 0
          · exact ⟨_, _, _, rfl, rfl, hc, .inl h0⟩
          · obtain ⟨x, hx⟩ : ∃ x, L[0]? = some x := ⟨_, List.getElem?_eq_getElem (by omega)⟩
            exact ⟨_, _, _, rfl, rfl, hc, .inr ⟨g, 0, rfl, World.block_lt_of_cell? w2 _ (hr 0 x hx), hr⟩⟩
      have HR0 := Lib.hid hr0; have HBT := Lib.hid hbit; have hn8 : n0 ≤ 1000000 := by omega
      have HN0 := Lib.hid hn0
      clear hown hr0 hbit hn0
      go_wp2
      go_loopw [4, 8, 9, 10] (fun v t _ _ wq => ∃ (M : List Nat) (acc : List UInt8) (a : Option Addr) (n cap : Nat), v = .slice a n cap ∧ OwnB w2.heap.size 5 t acc wq ∧ Below w2.heap.size w2 wq ∧ n ≤ cap ∧ acc.length + n ≤ 1000000 ∧ Hid (n = M.length) ∧ Hid (∀ x ∈ M, x ≤ 1) ∧ Hid (bytesOf L = acc ++ bytesOf M) ∧ Hid (n = 0 ∨ ∃ g o, a = some ⟨g, o, none⟩ ∧ g < w2.heap.size ∧ ∀ (j x : Nat), M[j]? = some x → w2.cell? ⟨g, o + j, none⟩ = some (.int .i64 x)))
        (fun v _ _ _ _ => match v with | .slice _ n _ => n | _ => 0)
      case atStart => exact ⟨L, [], a0, n0, cap0, rfl, OwnB.made w2 (Nat.le_refl _) _ _ rfl (by decide), (Below.refl _ _).alloc (Nat.le_refl _) _, hc0, by simpa using hn8, HN0, HBT, Lib.hid rfl, HR0⟩
      case round =>
        obtain ⟨M, acc, a, n, kap, rfl, hown, hb, hcap, hsum, hM, hMb, hd, hr⟩ := hrel
        by_cases h8 : 8 ≤ n
        · rcases hr.out with h | ⟨gg, o, rfl, hgg, hcell⟩
          · omega
          have hcell' : ∀ (j x : Nat), M[j]? = some x → wr.cell? ⟨gg, o + j, none⟩ = some (.int .i64 x) := fun j x hj => (hb.cell (p := ⟨gg, o + j, none⟩) hgg).trans (hcell j x hj)
          have HC := Lib.hid hcell'; have HC2 := Lib.hid hcell; clear hcell' hcell
          go_wp2
          go_loopw [9, 10] (fun m i wz => ∃ (j : Nat), j ≤ 8 ∧ i = .int .i64 j ∧ m = .int .i64 (eight M j) ∧ wz = wr) (fun _ i _ => 8 - (intOf i).toNat)
          case atStart => exact ⟨0, by omega, rfl, rfl, rfl⟩
          case round =>
            obtain ⟨j, hj, rfl, rfl, rfl⟩ := hrel
            have he := eight_lt M hMb.out j hj
            by_cases hj8 : j < 8
            · obtain ⟨x, hx⟩ : ∃ x, M[j]? = some x := ⟨_, List.getElem?_eq_getElem (by rw [← hM.out]; omega)⟩
              have hcell := HC.out j x hx
              have hx1 := hMb.out x (List.mem_of_getElem? hx)
              have hsx : ((eight M (j + 1) : Nat) : Int) = 2 * eight M j + x := by rw [eight, hx]; simp
              have HS := Lib.hid hsx; clear hsx hx
              go_wp2
              go_roundw
              case rel => exact ⟨j + 1, by omega, by go_num, vi (by rw [HS.out]), trivial⟩
              case measure => simp [intOf]; omega
            · obtain rfl : j = 8 := by omega
              obtain ⟨c, hc⟩ : ∃ c : UInt8, UInt8.ofNat (eight M 8) = c := ⟨_, rfl⟩
              have hcn : eight M 8 = c.toNat := by rw [← hc]; simp; omega
              have hc256 := c.toNat_lt
              have hmore := bytesOf_more (l := M) (by rw [← hM.out]; exact h8)
              rw [hc] at hmore
              have HMo := Lib.hid hmore; clear hmore hc
              rw [hcn]
              rw [hcn] at he
              clear hcn
              go_wp2_with (at_builtin; refine pushb (by rfl) _ _ _ (by rfl) 5 Tryd.underlying32 infoByte w2.heap.size wr _ _ (by rfl) hown c (by rfl) (by omega) hb.size ?_; intro g cap w1 hg hown1 hgr hb1 hsz1)
              go_roundw
              case rel =>
                refine ⟨M.drop 8, acc ++ [c], _, _, _, rfl, hown1, hb.trans hb1, by omega, by simp; omega, Lib.hid (by rw [List.length_drop, ← hM.out]), Lib.hid (fun x hx => hMb.out x (List.mem_of_mem_drop hx)), Lib.hid (by rw [hd.out, HMo.out]; simp), Lib.hid ?_⟩
                by_cases hk8 : kap = 8
                · exact .inl (by omega)
                · refine .inr ⟨gg, o + 8, by rw [if_neg hk8], hgg, fun j x hj => ?_⟩
                  rw [List.getElem?_drop] at hj
                  have := HC2.out _ _ hj
                  rw [← this]; congr 2; omega
              case measure => simp; omega
        · have hA : bytesOf L = acc := by rw [hd.out, bytesOf_few (by rw [← hM.out]; exact h8)]; simp
          have hlaw := HLAW.out
          rw [hA] at hlaw
          have kc := conv_own (P := Tryd.prog) Tryd.underlying32 Tryd.underlying5 Tryd.underlying9 hown
          have hen := encode_of ⟨acc.toArray⟩ (enc64 acc) (enc_law _ acc (Nat.le_refl _))
          have HE := Lib.hid hen; clear hen
          have hsz : (ByteArray.mk acc.toArray).size ≤ 1000000 := by show acc.length ≤ _; omega
          by_cases heq : enc64 acc = s.data.toList
          · rw [if_pos heq] at hlaw
            subst hlaw
            have hs' : (ByteArray.mk (enc64 acc).toArray) = s := by rw [heq]
            rw [hs'] at HE
            go_wp2_with (go_at_call 11; refine (HE.out _ hsz).mono ?_; rintro e w3 ⟨rfl, hb3⟩; have kc3 := conv_own (P := Tryd.prog) Tryd.underlying32 Tryd.underlying5 Tryd.underlying9 (OwnB.kept hown hb3))
            go_ret2
            exact ⟨rfl, (hbel.trans (hb.mono hbel.size)).trans (hb3.mono (Nat.le_trans hbel.size hb.size))⟩
          · rw [if_neg heq] at hlaw
            subst hlaw
            have hne : (enc64 acc == s.toList) = false := by
              rw [ByteArray.toList_eq, beq_eq_false_iff_ne]; exact heq
            go_wp2_with (go_at_call 11; refine (HE.out _ hsz).mono ?_; rintro e w3 ⟨rfl, hb3⟩; have kc3 := conv_own (P := Tryd.prog) Tryd.underlying32 Tryd.underlying5 Tryd.underlying9 (OwnB.kept hown hb3))
            go_ret2
            exact ⟨rfl, (hbel.trans (hb.mono hbel.size)).trans (hb3.mono (Nat.le_trans hbel.size hb.size))⟩
end Go.Proofs.YtbkhgmehfgfmfaaDoor
