/- The two Decodes of quoted-printable read alike. -/
import Derived.Test.YtbkhgmehfgfmfaaQpa
import Derived.Test.YtbkhgmehfgfmfaaPct
set_option linter.unusedVariables false
namespace Go.Proofs.Ytbkhgmehfgfmfaa
open Go.RowKit Nun
theorem begins_of_qp (s t : ByteArray) (n : Int) (b : Bool) (h : begins s.data.toList t.data.toList n = b) (w : World) (hs : s.size ≤ 1000000000) : Calls Try.prog 34 #[.string s, .string t, .int .i64 n] w (Same (.bool b) w) := h ▸ begins_any s t n w hs
theorem begins_of_ref (s t : ByteArray) (n : Int) (b : Bool) (h : begins s.data.toList t.data.toList n = b) (w : World) (hs : s.size ≤ 1000000000) (ht : t.size ≤ 1000000000 := by decide) : Calls Try.prog 37 #[.string s, .string t, .int .i64 n] w (Same (.bool b) w) := h ▸ beginsR_any s t n w hs ht
theorem plain_of_qp (c : UInt8) (b : Bool) (h : plainB c = b) (w : World) : Calls Try.prog 35 #[.int .u8 c.toNat] w (Same (.bool b) w) := h ▸ plain_qp c w
theorem plain_of_ref (c : UInt8) (b : Bool) (h : plainB c = b) (w : World) : Calls Try.prog 38 #[.int .u8 c.toNat] w (Same (.bool b) w) := h ▸ plain_ref c w

set_option maxHeartbeats 4000000 in
set_option maxRecDepth 100000 in
theorem decode_qp (s : ByteArray) (w : World) (hs : s.size ≤ 100000000) : Calls Try.prog 21 #[.string s] w (Ret (decV (decL s.data.toList)) w) := by
  have hlen : s.data.toList.length = s.size := rfl
  have HL := Lib.hid hlen; clear hlen
  go_enter Try.func21, Try.ntmps21
  go_wp2
  go_loopw [4, 5, 6, 7, 8] (fun v i _ _ _ wr => ∃ (k : Nat) (acc : List UInt8), i = .int .i64 k ∧ k ≤ s.size + 2 ∧ acc.length ≤ k ∧ OwnB w.heap.size 5 v acc wr ∧ Below w.heap.size w wr ∧ Hid (decL s.data.toList = (runFrom (dstep s.data.toList) s.data.toList.length k).map (acc ++ ·)))
    (fun _ i _ _ _ _ => s.size + 2 - (intOf i).toNat)
  case atStart => exact ⟨0, [], rfl, by omega, by simp, OwnB.nil _ _ _, Below.refl _ _, Lib.hid (by unfold decL; simp)⟩
  case round =>
    obtain ⟨k, acc, rfl, hk, hak, hown, hbel, hrd⟩ := hrel
    by_cases hlt : k < s.size
    · generalize hb1 : begins s.data.toList (⟨#[13, 10]⟩ : ByteArray).data.toList (k : Int) = b1
      generalize hb2 : begins s.data.toList (⟨#[61, 13, 10]⟩ : ByteArray).data.toList (k : Int) = b2
      have HB1 := Lib.hid hb1; have HB2 := Lib.hid hb2; clear hb1 hb2
      cases b1
      · cases b2
        · by_cases h61 : s[k] = 61
          · have q1 : ((s[k].toNat : Int) == 61) = true := by rw [h61]; rfl
            rcases ho : hexAt s.data.toList ((k : Int) + 1) with _ | b
            · have HR := Lib.hid (show decL s.data.toList = none by rw [hrd.out, runFrom_none (len := s.data.toList.length) hlt (by rw [dstep_eq s k hlt _ _ HB1.out HB2.out, if_neg (by simp), if_neg (by simp), if_pos h61, ho]; rfl)]; rfl)
              have HO := Lib.hid ho; clear ho hrd h61
              go_wp2_with (first | (go_at_call 34; refine (begins_of_qp _ _ _ _ (by first | exact HB1.out | exact HB2.out) _ (by omega)).mono ?_; rintro e w1 ⟨rfl, rfl⟩) | (go_at_call 29; refine (byte_of _ _ _ HO.out _ (by omega)).mono ?_; rintro e w1 ⟨rfl, rfl⟩))
              go_ret2
              rw [HR.out]
              exact ⟨rfl, hbel⟩
            · have HR := Lib.hid (runFrom_step (dstep_pos _) hlt (o := [b]) (n := 3) (by rw [dstep_eq s k hlt _ _ HB1.out HB2.out, if_neg (by simp), if_neg (by simp), if_pos h61, ho]; rfl) hrd.out)
              have hk3 : k + 3 ≤ s.size := by
                by_cases h3 : k + 3 ≤ s.size
                · exact h3
                · rw [hexAt_out s _ (by omega)] at ho; cases ho
              have HO := Lib.hid ho; clear ho hrd h61
              go_wp2_with (first | (go_at_call 34; refine (begins_of_qp _ _ _ _ (by first | exact HB1.out | exact HB2.out) _ (by omega)).mono ?_; rintro e w1 ⟨rfl, rfl⟩) | (go_at_call 29; refine (byte_of _ _ _ HO.out _ (by omega)).mono ?_; rintro e wo ⟨rfl, rfl⟩; skip) | (at_builtin; refine pushb (by rfl) _ _ _ (by rfl) 5 Try.underlying34 infoByte w.heap.size wr _ _ (by rfl) hown b (by rfl) (by omega) hbel.size ?_; intro g cap w1 hg hown1 hgr hb1 hsz1))
              go_roundw
              case rel => exact ⟨k + 3, acc ++ [b], by go_num, by omega, by simp; omega, hown1, hbel.trans hb1, HR⟩
              case measure => simp [intOf]; omega
          · have q1 : ((s[k].toNat : Int) == 61) = false := by simp [← UInt8.toNat_inj] at h61 ⊢; omega
            by_cases hp : plainB s[k] = true
            · have HR := Lib.hid (runFrom_step (dstep_pos _) hlt (o := [s[k]]) (n := 1) (by rw [dstep_eq s k hlt _ _ HB1.out HB2.out]; simp [h61, hp]) hrd.out)
              have HP := Lib.hid hp; clear hp hrd h61
              go_wp2_with (first | (go_at_call 34; refine (begins_of_qp _ _ _ _ (by first | exact HB1.out | exact HB2.out) _ (by omega)).mono ?_; rintro e w1 ⟨rfl, rfl⟩) | (go_at_call 35; refine (plain_of_qp _ _ HP.out _).mono ?_; rintro e w1 ⟨rfl, rfl⟩) | (at_builtin; refine pushb (by rfl) _ _ _ (by rfl) 5 Try.underlying34 infoByte w.heap.size wr _ _ (by rfl) hown s[k] (by rfl) (by omega) hbel.size ?_; intro g cap w1 hg hown1 hgr hb1 hsz1))
              go_roundw
              case rel => exact ⟨k + 1, acc ++ [s[k]], by go_num, by omega, by simp; omega, hown1, hbel.trans hb1, HR⟩
              case measure => simp [intOf]; omega
            · replace hp : plainB s[k] = false := by simpa using hp
              by_cases hbl : s[k] = 32 ∨ s[k] = 9
              · have HP := Lib.hid hp; clear hp
                rcases hbl with hbl | hbl
                · have HR := Lib.hid (runFrom_step (dstep_pos _) hlt (o := [s[k]]) (n := 1) (by rw [dstep_eq s k hlt _ _ HB1.out HB2.out]; simp [hbl, plainB]) hrd.out)
                  clear hrd h61
                  have q2 : ((s[k].toNat : Int) == 32) = true := by rw [hbl]; rfl
                  clear hbl
                  go_wp2_with (first | (go_at_call 34; refine (begins_of_qp _ _ _ _ (by first | exact HB1.out | exact HB2.out) _ (by omega)).mono ?_; rintro e w1 ⟨rfl, rfl⟩) | (go_at_call 35; refine (plain_of_qp _ _ HP.out _).mono ?_; rintro e w1 ⟨rfl, rfl⟩) | (at_builtin; refine pushb (by rfl) _ _ _ (by rfl) 5 Try.underlying34 infoByte w.heap.size wr _ _ (by rfl) hown s[k] (by rfl) (by omega) hbel.size ?_; intro g cap w1 hg hown1 hgr hb1 hsz1))
                  go_roundw
                  case rel => exact ⟨k + 1, acc ++ [s[k]], by go_num, by omega, by simp; omega, hown1, hbel.trans hb1, HR⟩
                  case measure => simp [intOf]; omega
                · have HR := Lib.hid (runFrom_step (dstep_pos _) hlt (o := [s[k]]) (n := 1) (by rw [dstep_eq s k hlt _ _ HB1.out HB2.out]; simp [hbl, plainB]) hrd.out)
                  clear hrd h61
                  have q2 : ((s[k].toNat : Int) == 32) = false := by rw [hbl]; rfl
                  have q3 : ((s[k].toNat : Int) == 9) = true := by rw [hbl]; rfl
                  clear hbl
                  go_wp2_with (first | (go_at_call 34; refine (begins_of_qp _ _ _ _ (by first | exact HB1.out | exact HB2.out) _ (by omega)).mono ?_; rintro e w1 ⟨rfl, rfl⟩) | (go_at_call 35; refine (plain_of_qp _ _ HP.out _).mono ?_; rintro e w1 ⟨rfl, rfl⟩) | (at_builtin; refine pushb (by rfl) _ _ _ (by rfl) 5 Try.underlying34 infoByte w.heap.size wr _ _ (by rfl) hown s[k] (by rfl) (by omega) hbel.size ?_; intro g cap w1 hg hown1 hgr hb1 hsz1))
                  go_roundw
                  case rel => exact ⟨k + 1, acc ++ [s[k]], by go_num, by omega, by simp; omega, hown1, hbel.trans hb1, HR⟩
                  case measure => simp [intOf]; omega
              · have h32 : ¬ s[k] = 32 := fun h => hbl (.inl h)
                have h9 : ¬ s[k] = 9 := fun h => hbl (.inr h)
                have HR := Lib.hid (show decL s.data.toList = none by rw [hrd.out, runFrom_none (len := s.data.toList.length) hlt (by rw [dstep_eq s k hlt _ _ HB1.out HB2.out]; simp [h61, hp, h32, h9])]; rfl)
                have q2 : ((s[k].toNat : Int) == 32) = false := by simp [← UInt8.toNat_inj] at h32 ⊢; omega
                have q3 : ((s[k].toNat : Int) == 9) = false := by simp [← UInt8.toNat_inj] at h9 ⊢; omega
                have HP := Lib.hid hp; clear hp hrd h61 hbl h32 h9
                go_wp2_with (first | (go_at_call 34; refine (begins_of_qp _ _ _ _ (by first | exact HB1.out | exact HB2.out) _ (by omega)).mono ?_; rintro e w1 ⟨rfl, rfl⟩) | (go_at_call 35; refine (plain_of_qp _ _ HP.out _).mono ?_; rintro e w1 ⟨rfl, rfl⟩))
                go_ret2
                rw [HR.out]
                exact ⟨rfl, hbel⟩
        · have HR := Lib.hid (runFrom_step (dstep_pos _) hlt (o := []) (n := 3) (by rw [dstep_eq s k hlt _ _ HB1.out HB2.out]; simp) hrd.out)
          clear hrd
          go_wp2_with (go_at_call 34; refine (begins_of_qp _ _ _ _ (by first | exact HB1.out | exact HB2.out) _ (by omega)).mono ?_; rintro e w1 ⟨rfl, rfl⟩)
          go_roundw
          case rel => exact ⟨k + 3, acc, by go_num, by omega, by omega, hown, hbel, by simpa using HR⟩
          case measure => simp [intOf]; omega
      · have HR := Lib.hid (runFrom_step (dstep_pos _) hlt (o := [10]) (n := 2) (by rw [dstep_eq s k hlt _ _ HB1.out HB2.out]; simp) hrd.out)
        clear hrd
        go_wp2_with (first | (go_at_call 34; refine (begins_of_qp _ _ _ _ (by first | exact HB1.out | exact HB2.out) _ (by omega)).mono ?_; rintro e w1 ⟨rfl, rfl⟩) | (at_builtin; refine pushb (by rfl) _ _ _ (by rfl) 5 Try.underlying34 infoByte w.heap.size wr _ _ (by rfl) hown 10 (by rfl) (by omega) hbel.size ?_; intro g cap w1 hg hown1 hgr hb1 hsz1))
        go_roundw
        case rel => exact ⟨k + 2, acc ++ [10], by go_num, by omega, by simp; omega, hown1, hbel.trans hb1, HR⟩
        case measure => simp [intOf]; omega
    · have hfin : decL s.data.toList = some acc := by
        rw [hrd.out, runFrom_done (by rw [HL.out]; omega)]; simp
      have HF := Lib.hid hfin; clear hfin
      have kc := conv_own (P := Try.prog) Try.underlying34 Try.underlying5 Try.underlying9 hown
      go_wp2
      go_ret2
      rw [HF.out]
      exact ⟨rfl, hbel⟩

set_option maxHeartbeats 4000000 in
set_option maxRecDepth 100000 in
theorem decode_ref (s : ByteArray) (w : World) (hs : s.size ≤ 100000000) : Calls Try.prog 24 #[.string s] w (Ret (decV (decL s.data.toList)) w) := by
  have hlen : s.data.toList.length = s.size := rfl
  have HL := Lib.hid hlen; clear hlen
  go_enter Try.func24, Try.ntmps24
  go_wp2
  go_loopw [4, 5, 6, 7, 8] (fun v i _ _ _ wr => ∃ (k : Nat) (acc : List UInt8), i = .int .i64 k ∧ k ≤ s.size + 2 ∧ acc.length ≤ k ∧ OwnB w.heap.size 5 v acc wr ∧ Below w.heap.size w wr ∧ Hid (decL s.data.toList = (runFrom (dstep s.data.toList) s.data.toList.length k).map (acc ++ ·)))
    (fun _ i _ _ _ _ => s.size + 2 - (intOf i).toNat)
  case atStart => exact ⟨0, [], rfl, by omega, by simp, OwnB.made w (Nat.le_refl _) _ _ rfl (by decide), (Below.refl _ _).alloc (Nat.le_refl _) _, Lib.hid (by unfold decL; simp)⟩
  case round =>
    obtain ⟨k, acc, rfl, hk, hak, hown, hbel, hrd⟩ := hrel
    by_cases hlt : k < s.size
    · generalize hb1 : begins s.data.toList (⟨#[13, 10]⟩ : ByteArray).data.toList (k : Int) = b1
      generalize hb2 : begins s.data.toList (⟨#[61, 13, 10]⟩ : ByteArray).data.toList (k : Int) = b2
      have HB1 := Lib.hid hb1; have HB2 := Lib.hid hb2; clear hb1 hb2
      cases b1
      · cases b2
        · by_cases h61 : s[k] = 61
          · have q1 : ((s[k].toNat : Int) == 61) = true := by rw [h61]; rfl
            rcases ho : hexAt s.data.toList ((k : Int) + 1) with _ | b
            · have HR := Lib.hid (show decL s.data.toList = none by rw [hrd.out, runFrom_none (len := s.data.toList.length) hlt (by rw [dstep_eq s k hlt _ _ HB1.out HB2.out, if_neg (by simp), if_neg (by simp), if_pos h61, ho]; rfl)]; rfl)
              have HO := Lib.hid ho; clear ho hrd h61
              go_wp2_with (first | (go_at_call 37; refine (begins_of_ref _ _ _ _ (by first | exact HB1.out | exact HB2.out) _ (by omega)).mono ?_; rintro e w1 ⟨rfl, rfl⟩) | (go_at_call 30; refine (byteR_of _ _ _ HO.out _ (by omega)).mono ?_; rintro e w1 ⟨rfl, hb0⟩))
              go_ret2
              rw [HR.out]
              exact ⟨rfl, hbel.trans (hb0.mono hbel.size)⟩
            · have HR := Lib.hid (runFrom_step (dstep_pos _) hlt (o := [b]) (n := 3) (by rw [dstep_eq s k hlt _ _ HB1.out HB2.out, if_neg (by simp), if_neg (by simp), if_pos h61, ho]; rfl) hrd.out)
              have hk3 : k + 3 ≤ s.size := by
                by_cases h3 : k + 3 ≤ s.size
                · exact h3
                · rw [hexAt_out s _ (by omega)] at ho; cases ho
              have HO := Lib.hid ho; clear ho hrd h61
              go_wp2_with (first | (go_at_call 37; refine (begins_of_ref _ _ _ _ (by first | exact HB1.out | exact HB2.out) _ (by omega)).mono ?_; rintro e w1 ⟨rfl, rfl⟩) | (go_at_call 30; refine (byteR_of _ _ _ HO.out _ (by omega)).mono ?_; rintro e wo ⟨rfl, hb0⟩; have hown0 := OwnB.kept hown hb0; have hbel0 := hbel.trans (hb0.mono hbel.size)) | (at_builtin; refine pushb (by rfl) _ _ _ (by rfl) 5 Try.underlying34 infoByte w.heap.size wo _ _ (by rfl) hown0 b (by rfl) (by omega) hbel0.size ?_; intro g cap w1 hg hown1 hgr hb1 hsz1))
              go_roundw
              case rel => exact ⟨k + 3, acc ++ [b], by go_num, by omega, by simp; omega, hown1, hbel0.trans hb1, HR⟩
              case measure => simp [intOf]; omega
          · have q1 : ((s[k].toNat : Int) == 61) = false := by simp [← UInt8.toNat_inj] at h61 ⊢; omega
            by_cases hp : plainB s[k] = true
            · have HR := Lib.hid (runFrom_step (dstep_pos _) hlt (o := [s[k]]) (n := 1) (by rw [dstep_eq s k hlt _ _ HB1.out HB2.out]; simp [h61, hp]) hrd.out)
              have HP := Lib.hid hp; clear hp hrd h61
              go_wp2_with (first | (go_at_call 37; refine (begins_of_ref _ _ _ _ (by first | exact HB1.out | exact HB2.out) _ (by omega)).mono ?_; rintro e w1 ⟨rfl, rfl⟩) | (go_at_call 38; refine (plain_of_ref _ _ HP.out _).mono ?_; rintro e w1 ⟨rfl, rfl⟩) | (at_builtin; refine pushb (by rfl) _ _ _ (by rfl) 5 Try.underlying34 infoByte w.heap.size wr _ _ (by rfl) hown s[k] (by rfl) (by omega) hbel.size ?_; intro g cap w1 hg hown1 hgr hb1 hsz1))
              go_roundw
              case rel => exact ⟨k + 1, acc ++ [s[k]], by go_num, by omega, by simp; omega, hown1, hbel.trans hb1, HR⟩
              case measure => simp [intOf]; omega
            · replace hp : plainB s[k] = false := by simpa using hp
              by_cases hbl : s[k] = 32 ∨ s[k] = 9
              · have HP := Lib.hid hp; clear hp
                rcases hbl with hbl | hbl
                · have HR := Lib.hid (runFrom_step (dstep_pos _) hlt (o := [s[k]]) (n := 1) (by rw [dstep_eq s k hlt _ _ HB1.out HB2.out]; simp [hbl, plainB]) hrd.out)
                  clear hrd h61
                  have q2 : ((s[k].toNat : Int) == 32) = true := by rw [hbl]; rfl
                  clear hbl
                  go_wp2_with (first | (go_at_call 37; refine (begins_of_ref _ _ _ _ (by first | exact HB1.out | exact HB2.out) _ (by omega)).mono ?_; rintro e w1 ⟨rfl, rfl⟩) | (go_at_call 38; refine (plain_of_ref _ _ HP.out _).mono ?_; rintro e w1 ⟨rfl, rfl⟩) | (at_builtin; refine pushb (by rfl) _ _ _ (by rfl) 5 Try.underlying34 infoByte w.heap.size wr _ _ (by rfl) hown s[k] (by rfl) (by omega) hbel.size ?_; intro g cap w1 hg hown1 hgr hb1 hsz1))
                  go_roundw
                  case rel => exact ⟨k + 1, acc ++ [s[k]], by go_num, by omega, by simp; omega, hown1, hbel.trans hb1, HR⟩
                  case measure => simp [intOf]; omega
                · have HR := Lib.hid (runFrom_step (dstep_pos _) hlt (o := [s[k]]) (n := 1) (by rw [dstep_eq s k hlt _ _ HB1.out HB2.out]; simp [hbl, plainB]) hrd.out)
                  clear hrd h61
                  have q2 : ((s[k].toNat : Int) == 32) = false := by rw [hbl]; rfl
                  have q3 : ((s[k].toNat : Int) == 9) = true := by rw [hbl]; rfl
                  clear hbl
                  go_wp2_with (first | (go_at_call 37; refine (begins_of_ref _ _ _ _ (by first | exact HB1.out | exact HB2.out) _ (by omega)).mono ?_; rintro e w1 ⟨rfl, rfl⟩) | (go_at_call 38; refine (plain_of_ref _ _ HP.out _).mono ?_; rintro e w1 ⟨rfl, rfl⟩) | (at_builtin; refine pushb (by rfl) _ _ _ (by rfl) 5 Try.underlying34 infoByte w.heap.size wr _ _ (by rfl) hown s[k] (by rfl) (by omega) hbel.size ?_; intro g cap w1 hg hown1 hgr hb1 hsz1))
                  go_roundw
                  case rel => exact ⟨k + 1, acc ++ [s[k]], by go_num, by omega, by simp; omega, hown1, hbel.trans hb1, HR⟩
                  case measure => simp [intOf]; omega
              · have h32 : ¬ s[k] = 32 := fun h => hbl (.inl h)
                have h9 : ¬ s[k] = 9 := fun h => hbl (.inr h)
                have HR := Lib.hid (show decL s.data.toList = none by rw [hrd.out, runFrom_none (len := s.data.toList.length) hlt (by rw [dstep_eq s k hlt _ _ HB1.out HB2.out]; simp [h61, hp, h32, h9])]; rfl)
                have q2 : ((s[k].toNat : Int) == 32) = false := by simp [← UInt8.toNat_inj] at h32 ⊢; omega
                have q3 : ((s[k].toNat : Int) == 9) = false := by simp [← UInt8.toNat_inj] at h9 ⊢; omega
                have HP := Lib.hid hp; clear hp hrd h61 hbl h32 h9
                go_wp2_with (first | (go_at_call 37; refine (begins_of_ref _ _ _ _ (by first | exact HB1.out | exact HB2.out) _ (by omega)).mono ?_; rintro e w1 ⟨rfl, rfl⟩) | (go_at_call 38; refine (plain_of_ref _ _ HP.out _).mono ?_; rintro e w1 ⟨rfl, rfl⟩))
                go_ret2
                rw [HR.out]
                exact ⟨rfl, hbel⟩
        · have HR := Lib.hid (runFrom_step (dstep_pos _) hlt (o := []) (n := 3) (by rw [dstep_eq s k hlt _ _ HB1.out HB2.out]; simp) hrd.out)
          clear hrd
          go_wp2_with (go_at_call 37; refine (begins_of_ref _ _ _ _ (by first | exact HB1.out | exact HB2.out) _ (by omega)).mono ?_; rintro e w1 ⟨rfl, rfl⟩)
          go_roundw
          case rel => exact ⟨k + 3, acc, by go_num, by omega, by omega, hown, hbel, by simpa using HR⟩
          case measure => simp [intOf]; omega
      · have HR := Lib.hid (runFrom_step (dstep_pos _) hlt (o := [10]) (n := 2) (by rw [dstep_eq s k hlt _ _ HB1.out HB2.out]; simp) hrd.out)
        clear hrd
        go_wp2_with (first | (go_at_call 37; refine (begins_of_ref _ _ _ _ (by first | exact HB1.out | exact HB2.out) _ (by omega)).mono ?_; rintro e w1 ⟨rfl, rfl⟩) | (at_builtin; refine pushb (by rfl) _ _ _ (by rfl) 5 Try.underlying34 infoByte w.heap.size wr _ _ (by rfl) hown 10 (by rfl) (by omega) hbel.size ?_; intro g cap w1 hg hown1 hgr hb1 hsz1))
        go_roundw
        case rel => exact ⟨k + 2, acc ++ [10], by go_num, by omega, by simp; omega, hown1, hbel.trans hb1, HR⟩
        case measure => simp [intOf]; omega
    · have hfin : decL s.data.toList = some acc := by
        rw [hrd.out, runFrom_done (by rw [HL.out]; omega)]; simp
      have HF := Lib.hid hfin; clear hfin
      have kc := conv_own (P := Try.prog) Try.underlying34 Try.underlying5 Try.underlying9 hown
      go_wp2
      go_ret2
      rw [HF.out]
      exact ⟨rfl, hbel⟩
end Go.Proofs.Ytbkhgmehfgfmfaa
