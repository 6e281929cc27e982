/- head's reader: blanks, sign, run. -/
import Derived.Test.YtdfflbpifpoogaaDoorOcg
import Derived.Test.YtdfflbpifpoogaaDoorHpb
import Derived.Maps.AppendAt
import Derived.OwnWalk
import Derived.RangeFuncBox
import Derived.RangeFuncNested
import Derived.Shelf.Strings.SlTrimAscii
set_option linter.unusedVariables false
set_option synthInstance.maxSize 4000
namespace Nun
open Go Go.RowKit
theorem grown_of_below {w w' : World} (h : Below w.heap.size w w') (r : Option Nat) : w.grownBy w' r := ⟨h.os, h.tape, h.output, h.size, fun k hk _ => h.block k hk⟩
theorem grown_below {w w' : World} {R B : Nat} (h : w.grownBy w' (some R)) (hR : B ≤ R) (hB : B ≤ w.heap.size) : Below B w w' := ⟨h.os, h.tape, h.output, h.size, fun k hk => h.block k (by omega) (by intro e; cases e; omega)⟩
theorem mk_list (s : ByteArray) : (⟨s.data.toList.toArray⟩ : ByteArray) = s := by
  apply ByteArray.ext; apply Array.ext'; rfl
theorem mk_size2 (l : List UInt8) : (⟨l.toArray⟩ : ByteArray).size = l.length := rfl
theorem mk_data (l : List UInt8) : (⟨l.toArray⟩ : ByteArray).data.toList = l := rfl
theorem ne_empty {s : ByteArray} (h : 0 < s.size) : s.data.toList.isEmpty = false := by
  rcases hd : s.data.toList with _ | ⟨c, l⟩
  · have : s.size = 0 := congrArg List.length hd
    omega
  · rfl
end Nun
namespace Go.Proofs.YtdfflbpifpoogaaDoor
open Go Go.RowKit Nun
set_option maxHeartbeats 1000000 in
theorem blanks_head (R : Nat) (l : List UInt8) (w : World) (hb : Boxed w R 62 (.string ⟨l.toArray⟩)) (t : List UInt8) (ht : l.dropWhile blankC = t) :
    Calls Tryd.prog 30 #[.pointer (some ⟨R, 0, none⟩)] w fun e w' => e = .returned (.tuple #[]) ∧ Boxed w' R 62 (.string ⟨t.toArray⟩) ∧ w.grownBy w' (some R) := by
  obtain ⟨s, hs⟩ : ∃ s : ByteArray, (⟨l.toArray⟩ : ByteArray) = s := ⟨_, rfl⟩
  have h := Any.strings_TrimLeft_laid Tryd.lays161 (by kernel_rfl) s ⟨#[32, 9]⟩ w (by decide) (ascii_of_all (by decide))
  rw [show (ByteArray.mk #[32, 9]).data.toList = [32, 9] from rfl, trimLeftS_blank, ← hs, show (ByteArray.mk l.toArray).data.toList = l from rfl, ht, hs] at h
  rw [hs] at hb
  obtain ⟨u, hu⟩ : ∃ u : ByteArray, (⟨t.toArray⟩ : ByteArray) = u := ⟨_, rfl⟩
  rw [hu] at h ⊢
  have H := Lib.hid h
  have hc := hb.cell; have hf := hb.frozen
  clear h hs ht hu
  go_enter Tryd.func30, Tryd.ntmps30
  go_wp2_with (go_at_call 46; refine H.out.mono ?_; rintro e w1 ⟨rfl, hb1⟩; have hbx1 := (hb1.block _ hb.lt).trans hb; have hc1 := Boxed.cell hbx1; have hf1 := Boxed.frozen hbx1)
  go_end0
  exact ⟨rfl, Boxed.set _ hbx1, (grown_of_below hb1 _).trans (grownBy_setCell' _ _ _)⟩
set_option maxHeartbeats 1000000 in
theorem sign_head (R : Nat) (c : UInt8) (l : List UInt8) (w : World) (hl : l.length ≤ 1000000) (hb : Boxed w R 62 (.string ⟨l.toArray⟩)) (o : Option (List UInt8)) (ho : signL c l = o) :
    Calls Tryd.prog 32 #[.pointer (some ⟨R, 0, none⟩), .int .u8 c.toNat] w fun e w' => e = .returned (.bool o.isSome) ∧ Boxed w' R 62 (.string ⟨(o.getD l).toArray⟩) ∧ w.grownBy w' (some R) := by
  have hc := hb.cell; have hf := hb.frozen
  rcases l with _ | ⟨d, t⟩
  · subst ho
    go_enter Tryd.func32, Tryd.ntmps32
    go_wp2
    go_ret
    exact ⟨rfl, hb, World.grownBy.refl _ _⟩
  · rw [List.length_cons] at hl
    obtain ⟨s, hs⟩ : ∃ s : ByteArray, (⟨(d :: t).toArray⟩ : ByteArray) = s := ⟨_, rfl⟩
    have hsz : s.size = t.length + 1 := by rw [← hs]; rfl
    have hpos : 0 < s.size := by omega
    have hd : s[0] = d := by subst hs; rfl
    have htl : s.extract 1 s.size = ⟨t.toArray⟩ := by
      apply ByteArray.ext; apply Array.ext'
      rw [Lib.extract_data, ← hs]; simp [ByteArray.size]
    by_cases hdc : d = c
    · obtain rfl : o = some t := by rw [← ho, signL, if_pos hdc]
      have hq : ((s[0].toNat : Int) != (c.toNat : Int)) = false := by rw [hd, hdc]; simp
      rw [hs] at hb hc
      have hb2 := Boxed.set (.string (s.extract 1 s.size)) hb
      rw [htl] at hb2
      have HB := Lib.hid hb2
      have HS := Lib.hid htl
      rw [← hsz] at hl
      clear hb2 hs hd htl ho hsz
      have hne : s.toList.isEmpty = false := by rw [Lib.toList_data]; exact ne_empty hpos
      go_enter Tryd.func32, Tryd.ntmps32
      go_wp2
      go_ret
      rw [HS.out]
      exact ⟨rfl, HB.out, grownBy_setCell' _ _ _⟩
    · obtain rfl : o = none := by rw [← ho, signL, if_neg hdc]
      have hq : ((s[0].toNat : Int) != (c.toNat : Int)) = true := by
        rw [hd, bne_iff_ne]; intro h; exact hdc (UInt8.toNat_inj.1 (by omega))
      have HB := Lib.hid hb
      rw [hs] at hb hc
      rw [← hsz] at hl
      clear hs hd htl ho hsz
      have hne : s.toList.isEmpty = false := by rw [Lib.toList_data]; exact ne_empty hpos
      go_enter Tryd.func32, Tryd.ntmps32
      go_wp2
      go_ret
      exact ⟨rfl, HB.out, World.grownBy.refl _ _⟩
theorem index_of (c : UInt8) (b : Bool) (h : decide (Go.Lib.indexByte [59, 61, 34, 92] c < 0) = b) (w : World) :
    Calls Tryd.prog 47 #[.string ⟨#[59, 61, 34, 92]⟩, .int .u8 c.toNat] w fun e w' => ∃ n : Int, e = .returned (.int .i64 n) ∧ decide (n < 0) = b ∧ w' = w := by
  refine (Tryd.strings_IndexByte ⟨#[59, 61, 34, 92]⟩ c.toNat w).mono ?_
  rintro e w' ⟨rfl, rfl⟩
  refine ⟨_, rfl, ?_, rfl⟩
  rw [show ((c.toNat : Int).toNat).toUInt8 = c by simp]
  exact h
set_option maxHeartbeats 2000000 in
set_option maxRecDepth 100000 in
theorem run_head (R : Nat) (l : List UInt8) (w : World) (hl : l.length ≤ 1000000) (hb : Boxed w R 62 (.string ⟨l.toArray⟩)) (t r : List UInt8) (ht : l.takeWhile plainC = t) (hr : l.dropWhile plainC = r) :
    Calls Tryd.prog 31 #[.pointer (some ⟨R, 0, none⟩)] w fun e w' => e = .returned (.string ⟨t.toArray⟩) ∧ Boxed w' R 62 (.string ⟨r.toArray⟩) ∧ w.grownBy w' (some R) := by
  obtain ⟨s, hs⟩ : ∃ s : ByteArray, (⟨l.toArray⟩ : ByteArray) = s := ⟨_, rfl⟩
  have hls : s.data.toList = l := by rw [← hs]
  have hsz : s.size = l.length := by rw [← hs]; rfl
  rw [hs] at hb
  rw [← hls] at ht hr
  have HT := Lib.hid ht; have HR := Lib.hid hr
  have hc := hb.cell; have hf := hb.frozen
  rw [← hsz] at hl
  clear hs hls hsz ht hr
  go_enter Tryd.func31, Tryd.ntmps31
  go_wp2
  go_loopw [3] (fun i w4 => ∃ k : Nat, i = .int .i64 k ∧ k ≤ s.size ∧ w4 = w ∧ Hid (∀ j (h : j < s.data.toList.length), j < k → plainC s.data.toList[j] = true)) (fun i _ => s.size - (intOf i).toNat)
  case atStart => exact ⟨0, rfl, Nat.zero_le _, rfl, Lib.hid (fun j _ h => absurd h (Nat.not_lt_zero _))⟩
  case round =>
    obtain ⟨k, rfl, hk, rfl, hall⟩ := hrel
    have hend : (∀ h : k < s.data.toList.length, plainC s.data.toList[k] = false) → s.extract 0 k = ⟨t.toArray⟩ ∧ s.extract k s.size = ⟨r.toArray⟩ := by
      intro h
      obtain ⟨h1, h2⟩ := take_drop_while plainC s.data.toList k hall.out h hk
      rw [HT.out] at h1; rw [HR.out] at h2
      constructor
      · apply ByteArray.ext; apply Array.ext'
        rw [Lib.extract_data, List.drop_zero, Nat.sub_zero, h1]
      · apply ByteArray.ext; apply Array.ext'
        rw [Lib.extract_data, List.take_of_length_le (by rw [List.length_drop]; exact Nat.le_refl _), h2]
    have HEND := Lib.hid hend; clear hend
    by_cases hlt : k < s.size
    · have hps := plain_split s[k]
      have hki : (k : Int) < (s.size : Int) := by omega
      have hmore : plainC s[k] = true → Hid (∀ j (h : j < s.data.toList.length), j < k + 1 → plainC s.data.toList[j] = true) := fun hp => Lib.hid (fun j h hj => by
        rcases Nat.lt_or_ge j k with h2 | h2
        · exact hall.out j h h2
        · obtain rfl : j = k := by omega
          exact hp)
      have HM := Lib.hid hmore; clear hmore
      have hstop : plainC s[k] = false → s.extract 0 k = ⟨t.toArray⟩ ∧ s.extract k s.size = ⟨r.toArray⟩ := fun hp => HEND.out (fun _ => hp)
      have HS := Lib.hid hstop; clear hstop HEND
      rcases hA : decide ((s[k].toNat : Int) > 32) with _ | _
      · rw [hA] at hps
        obtain ⟨e1, e2⟩ := HS.out hps
        have HE1 := Lib.hid e1; have HE2 := Lib.hid e2
        replace hA : ¬ ((s[k].toNat : Int) > 32) := of_decide_eq_false hA
        clear hps e1 e2
        go_wp2
        go_ret
        rw [HE1.out, HE2.out]
        exact ⟨rfl, Boxed.set _ hb, grownBy_setCell' _ _ _⟩
      · rcases hB : decide ((s[k].toNat : Int) < 127) with _ | _
        · rw [hA, hB] at hps
          obtain ⟨e1, e2⟩ := HS.out hps
          have HE1 := Lib.hid e1; have HE2 := Lib.hid e2
          replace hA : ((s[k].toNat : Int) > 32) := of_decide_eq_true hA
          replace hB : ¬ ((s[k].toNat : Int) < 127) := of_decide_eq_false hB
          clear hps e1 e2
          go_wp2
          go_ret
          rw [HE1.out, HE2.out]
          exact ⟨rfl, Boxed.set _ hb, grownBy_setCell' _ _ _⟩
        · rcases hC : decide (Go.Lib.indexByte [59, 61, 34, 92] s[k] < 0) with _ | _
          · rw [hA, hB, hC] at hps
            obtain ⟨e1, e2⟩ := HS.out hps
            have HE1 := Lib.hid e1; have HE2 := Lib.hid e2; have HC := Lib.hid hC
            replace hA : ((s[k].toNat : Int) > 32) := of_decide_eq_true hA
            replace hB : ((s[k].toNat : Int) < 127) := of_decide_eq_true hB
            clear hps e1 e2 hC
            go_wp2_with (go_at_call 47; refine (index_of s[k] false HC.out _).mono ?_; rintro e w1 ⟨n, rfl, hn, rfl⟩; replace hn := of_decide_eq_false hn)
            go_ret
            rw [HE1.out, HE2.out]
            exact ⟨rfl, Boxed.set _ hb, grownBy_setCell' _ _ _⟩
          · rw [hA, hB, hC] at hps
            have HMM := HM.out hps
            have HC := Lib.hid hC
            replace hA : ((s[k].toNat : Int) > 32) := of_decide_eq_true hA
            replace hB : ((s[k].toNat : Int) < 127) := of_decide_eq_true hB
            clear hps hC
            go_wp2_with (go_at_call 47; refine (index_of s[k] true HC.out _).mono ?_; rintro e w1 ⟨n, rfl, hn, rfl⟩; replace hn := of_decide_eq_true hn)
            go_roundw
            case rel => exact ⟨k + 1, by go_num, by omega, trivial, HMM⟩
            case measure => simp [intOf]; omega
    · have hki : ¬ (k : Int) < (s.size : Int) := by omega
      have hk2 : (k : Int) ≤ (s.size : Int) := by omega
      obtain ⟨e1, e2⟩ := HEND.out (fun h => absurd h hlt)
      have HE1 := Lib.hid e1; have HE2 := Lib.hid e2
      clear e1 e2
      go_wp2
      go_ret
      rw [HE1.out, HE2.out]
      exact ⟨rfl, Boxed.set _ hb, grownBy_setCell' _ _ _⟩
end Go.Proofs.YtdfflbpifpoogaaDoor
