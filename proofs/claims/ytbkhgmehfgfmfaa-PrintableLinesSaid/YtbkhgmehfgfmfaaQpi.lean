/- The iterator over a text's pieces keeps its contract: every round's body that keeps one box. -/
import Derived.Test.YtbkhgmehfgfmfaaQpf
import Derived.Test.YtbkhgmehfgfmfaaSco
set_option linter.unusedVariables false
namespace Nun
/-- The piece at a place: of a line's end the empty one. -/
def pcAt (s : List UInt8) (k : Nat) : List UInt8 := match s[k]? with | none => [] | some c => if c = 10 then [] else piece c (s.drop (k + 1))
abbrev Short := { p : ByteArray // p.size ≤ 3 }
def Short.bytes (p : Short) : List UInt8 := p.1.data.toList
end Nun
namespace Go.Proofs.Ytbkhgmehfgfmfaa
open Go.RowKit Nun
attribute [local go_sem] Oper.semAt_some
set_option maxHeartbeats 2000000 in
set_option maxRecDepth 100000 in
theorem pieces_stops (n : Nat) (hn : 1 ≤ n) (s : ByteArray) (hs : s.size ≤ 1000000) (Bn : Nat) (w : World) (hbox : Boxed w Bn 9 (.string s)) :
    SeqStopsK Fence.wide n Try.prog 44 #[.pointer (some ⟨Bn, 0, none⟩)] (fun p : Short => #[.string p.1]) (KeepsAt Bn)
      (fun xs => xs.map Short.bytes = (List.range s.size).map (pcAt s.data.toList)) (fun _ => True) s.size w := fun l J Jx W hW hJ hJx hY h0 => by
  have hbx0 : Boxed W Bn 9 (.string s) := (hW.block _ hbox.lt).trans hbox
  have hc0 := hbx0.cell
  have HX := Lib.hid hbx0; clear hbx0
  refine callsIn_of_wp Try.func44 rfl trivial ?_ rfl
  simp only [Try.ntmps44, List.size_toArray, List.length_cons, List.length_nil, Nat.reduceAdd, Nat.reduceSub, Array.replicate_succ, Array.replicate_zero, List.push_toArray, List.append_toArray, List.nil_append, List.cons_append]
  gi_wp2
  gi_loopw [8] (fun v wr => ∃ (k : Nat) (pre : List Short), v = .int .i64 k ∧ k ≤ s.size ∧ Hid (pre.map Short.bytes = (List.range k).map (pcAt s.data.toList)) ∧ Hid (J pre wr) ∧ Hid (Boxed wr Bn 9 (.string s)))
    (fun v _ => s.size - (intOf v).toNat)
  case atStart => exact ⟨0, [], rfl, Nat.zero_le _, Lib.hid rfl, Lib.hid h0, HX⟩
  case round =>
    obtain ⟨k, pre, rfl, hk, hpre, hJs, hbx⟩ := hrel
    replace hJs := hJs.out
    replace hbx := hbx.out
    have hc2 := hbx.cell
    have hbl := hbx.lt
    have hplen : pre.length = k := by have := congrArg List.length hpre.out; simpa using this
    by_cases hlt : k < s.size
    · have hpl : (pair s[k]).length ≤ 2 := by simp [pair]
      have hget : s.data.toList[k]? = some s[k] := by rw [List.getElem?_eq_getElem (show k < s.data.toList.length from hlt)]; rfl
      by_cases hnl : s[k] = 10
      · have HE := Lib.hid (show pcAt s.data.toList k = [] by unfold pcAt; rw [hget]; simp [hnl])
        have q0 : ((s[k].toNat : Int) == 10) = true := by rw [hnl]; rfl
        clear hget hnl
        gi_wp2_with (first | (refine ⟨trivial, ?_⟩; gi_at_call 40; refine (callsIn_wide.2 (pair_any _ _)).mono ?_; rintro e w1 ⟨rfl, hb1⟩; have hJ1 := abides_below hJ hJs hb1; have hbx1 := (hb1.block _ hbl).trans hbx; have hc1 := Boxed.cell hbx1; obtain ⟨fn, tmps, assign, body, hy, hR⟩ := hY pre ⟨⟨#[]⟩, by decide⟩ w1 hJ1 (by omega); dsimp only at hy) | (refine ⟨trivial, ?_⟩; gi_at_call 35; refine (callsIn_wide.2 (plain_of_qp _ _ HP.out _)).mono ?_; rintro e w2 ⟨rfl, rfl⟩))
        refine hR.mono ?_
        rintro e W3 (⟨rfl, hJ3, hk3⟩ | ⟨rfl, hx3⟩)
        · gi_wp2
          go_roundw
          case rel => exact ⟨k + 1, pre ++ [⟨⟨#[]⟩, by decide⟩], by go_num, by omega, Lib.hid (by rw [List.map_append, hpre.out, List.range_succ, List.map_append, List.map_singleton, List.map_singleton, HE.out]; rfl), Lib.hid hJ3, Lib.hid (Eq.trans hk3 hbx1)⟩
          case measure => simp [intOf]; omega
        · gi_wp2
          refine bodyPost_ret (results_none rfl _ _ _) rfl ?_
          exact ⟨⟨_, rfl⟩, .inr ⟨_, trivial, hx3⟩⟩
      · have hpc : pcAt s.data.toList k = piece s[k] (s.data.toList.drop (k + 1)) := by unfold pcAt; rw [hget]; simp [hnl]
        have q0 : ((s[k].toNat : Int) == 10) = false := by simp [← UInt8.toNat_inj] at hnl ⊢; omega
        clear hget hnl
        generalize hp : plainB s[k] = bp
        have HP := Lib.hid hp; clear hp
        cases bp
        · by_cases hbk : s[k] = 32 ∨ s[k] = 9
          · have q : ∃ b, ((s[k].toNat : Int) == 32) = b ∧ (b = false → ((s[k].toNat : Int) == 9) = true) := by
              refine ⟨_, rfl, fun h => ?_⟩
              rcases hbk with h' | h'
              · rw [h'] at h; cases h
              · rw [h']; rfl
            obtain ⟨b, q1, q2⟩ := q
            by_cases hnx : k + 1 < s.size
            · have i2 : (k : Int) + 1 < (s.size : Int) := by omega
              by_cases h10 : s[k + 1] = 10
              · have HE := Lib.hid (hpc.trans (piece_three (s := s.data.toList) hlt HP.out (.inr (.inr ⟨hnx, h10⟩))))
                have q3 : ((s[k + 1].toNat : Int) == 10) = true := by rw [h10]; rfl
                have q4 : ((s[k + 1].toNat : Int) != 10) = false := by rw [h10]; rfl
                clear h10 hbk hpc
                cases b
                all_goals (try replace q2 := q2 rfl)
                all_goals
                  gi_wp2_with (first | (refine ⟨trivial, ?_⟩; gi_at_call 40; refine (callsIn_wide.2 (pair_any _ _)).mono ?_; rintro e w1 ⟨rfl, hb1⟩; have hJ1 := abides_below hJ hJs hb1; have hbx1 := (hb1.block _ hbl).trans hbx; have hc1 := Boxed.cell hbx1; obtain ⟨fn, tmps, assign, body, hy, hR⟩ := hY pre ⟨⟨#[61]⟩ ++ ⟨(pair s[k]).toArray⟩, by simp [ByteArray.size_append, mk_size, pair]⟩ w1 hJ1 (by omega); dsimp only at hy) | (refine ⟨trivial, ?_⟩; gi_at_call 35; refine (callsIn_wide.2 (plain_of_qp _ _ HP.out _)).mono ?_; rintro e w2 ⟨rfl, rfl⟩))
                  refine hR.mono ?_
                  rintro e W3 (⟨rfl, hJ3, hk3⟩ | ⟨rfl, hx3⟩)
                  · gi_wp2
                    go_roundw
                    case rel => exact ⟨k + 1, pre ++ [⟨⟨#[61]⟩ ++ ⟨(pair s[k]).toArray⟩, by simp [ByteArray.size_append, mk_size, pair]⟩], by go_num, by omega, Lib.hid (by rw [List.map_append, hpre.out, List.range_succ, List.map_append, List.map_singleton, List.map_singleton, HE.out]; exact congrArg (fun z => List.map (pcAt s.data.toList) (List.range k) ++ [z]) ((ByteArray.toList_data_append).trans rfl)), Lib.hid hJ3, Lib.hid (Eq.trans hk3 hbx1)⟩
                    case measure => simp [intOf]; omega
                  · gi_wp2
                    refine bodyPost_ret (results_none rfl _ _ _) rfl ?_
                    exact ⟨⟨_, rfl⟩, .inr ⟨_, trivial, hx3⟩⟩
              · have HE := Lib.hid (hpc.trans (piece_one (s := s.data.toList) hlt (.inr ⟨hbk, hnx, h10⟩)))
                have q3 : ((s[k + 1].toNat : Int) == 10) = false := by simp [← UInt8.toNat_inj] at h10 ⊢; omega
                have q4 : ((s[k + 1].toNat : Int) != 10) = true := by simp [← UInt8.toNat_inj] at h10 ⊢; omega
                clear h10 hbk hpc
                cases b
                all_goals (try replace q2 := q2 rfl)
                all_goals
                  gi_wp2_with (first | (refine ⟨trivial, ?_⟩; gi_at_call 40; refine (callsIn_wide.2 (pair_any _ _)).mono ?_; rintro e w1 ⟨rfl, hb1⟩; have hJ1 := abides_below hJ hJs hb1; have hbx1 := (hb1.block _ hbl).trans hbx; have hc1 := Boxed.cell hbx1; obtain ⟨fn, tmps, assign, body, hy, hR⟩ := hY pre ⟨s.extract k (k + 1), by simp [ByteArray.size_extract]; omega⟩ w1 hJ1 (by omega); dsimp only at hy) | (refine ⟨trivial, ?_⟩; gi_at_call 35; refine (callsIn_wide.2 (plain_of_qp _ _ HP.out _)).mono ?_; rintro e w2 ⟨rfl, rfl⟩))
                  refine hR.mono ?_
                  rintro e W3 (⟨rfl, hJ3, hk3⟩ | ⟨rfl, hx3⟩)
                  · gi_wp2
                    go_roundw
                    case rel => exact ⟨k + 1, pre ++ [⟨s.extract k (k + 1), by simp [ByteArray.size_extract]; omega⟩], by go_num, by omega, Lib.hid (by rw [List.map_append, hpre.out, List.range_succ, List.map_append, List.map_singleton, List.map_singleton, HE.out]; exact congrArg (fun z => List.map (pcAt s.data.toList) (List.range k) ++ [z]) ((ext1 s k hlt).trans rfl)), Lib.hid hJ3, Lib.hid (Eq.trans hk3 hbx1)⟩
                    case measure => simp [intOf]; omega
                  · gi_wp2
                    refine bodyPost_ret (results_none rfl _ _ _) rfl ?_
                    exact ⟨⟨_, rfl⟩, .inr ⟨_, trivial, hx3⟩⟩
            · have HE := Lib.hid (hpc.trans (piece_three (s := s.data.toList) hlt HP.out (.inr (.inl (by show s.size ≤ _; omega)))))
              have i1 : ¬ (k : Int) + 1 < (s.size : Int) := by omega
              clear hbk hpc
              cases b
              all_goals (try replace q2 := q2 rfl)
              all_goals
                gi_wp2_with (first | (refine ⟨trivial, ?_⟩; gi_at_call 40; refine (callsIn_wide.2 (pair_any _ _)).mono ?_; rintro e w1 ⟨rfl, hb1⟩; have hJ1 := abides_below hJ hJs hb1; have hbx1 := (hb1.block _ hbl).trans hbx; have hc1 := Boxed.cell hbx1; obtain ⟨fn, tmps, assign, body, hy, hR⟩ := hY pre ⟨⟨#[61]⟩ ++ ⟨(pair s[k]).toArray⟩, by simp [ByteArray.size_append, mk_size, pair]⟩ w1 hJ1 (by omega); dsimp only at hy) | (refine ⟨trivial, ?_⟩; gi_at_call 35; refine (callsIn_wide.2 (plain_of_qp _ _ HP.out _)).mono ?_; rintro e w2 ⟨rfl, rfl⟩))
                refine hR.mono ?_
                rintro e W3 (⟨rfl, hJ3, hk3⟩ | ⟨rfl, hx3⟩)
                · gi_wp2
                  go_roundw
                  case rel => exact ⟨k + 1, pre ++ [⟨⟨#[61]⟩ ++ ⟨(pair s[k]).toArray⟩, by simp [ByteArray.size_append, mk_size, pair]⟩], by go_num, by omega, Lib.hid (by rw [List.map_append, hpre.out, List.range_succ, List.map_append, List.map_singleton, List.map_singleton, HE.out]; exact congrArg (fun z => List.map (pcAt s.data.toList) (List.range k) ++ [z]) ((ByteArray.toList_data_append).trans rfl)), Lib.hid hJ3, Lib.hid (Eq.trans hk3 hbx1)⟩
                  case measure => simp [intOf]; omega
                · gi_wp2
                  refine bodyPost_ret (results_none rfl _ _ _) rfl ?_
                  exact ⟨⟨_, rfl⟩, .inr ⟨_, trivial, hx3⟩⟩
          · have h32 : ¬ s[k] = 32 := fun h => hbk (.inl h)
            have h9 : ¬ s[k] = 9 := fun h => hbk (.inr h)
            have HE := Lib.hid (hpc.trans (piece_three (s := s.data.toList) hlt HP.out (.inl ⟨h32, h9⟩)))
            have q1 : ((s[k].toNat : Int) == 32) = false := by simp [← UInt8.toNat_inj] at h32 ⊢; omega
            have q2 : ((s[k].toNat : Int) == 9) = false := by simp [← UInt8.toNat_inj] at h9 ⊢; omega
            clear hbk h32 h9 hpc
            gi_wp2_with (first | (refine ⟨trivial, ?_⟩; gi_at_call 40; refine (callsIn_wide.2 (pair_any _ _)).mono ?_; rintro e w1 ⟨rfl, hb1⟩; have hJ1 := abides_below hJ hJs hb1; have hbx1 := (hb1.block _ hbl).trans hbx; have hc1 := Boxed.cell hbx1; obtain ⟨fn, tmps, assign, body, hy, hR⟩ := hY pre ⟨⟨#[61]⟩ ++ ⟨(pair s[k]).toArray⟩, by simp [ByteArray.size_append, mk_size, pair]⟩ w1 hJ1 (by omega); dsimp only at hy) | (refine ⟨trivial, ?_⟩; gi_at_call 35; refine (callsIn_wide.2 (plain_of_qp _ _ HP.out _)).mono ?_; rintro e w2 ⟨rfl, rfl⟩))
            refine hR.mono ?_
            rintro e W3 (⟨rfl, hJ3, hk3⟩ | ⟨rfl, hx3⟩)
            · gi_wp2
              go_roundw
              case rel => exact ⟨k + 1, pre ++ [⟨⟨#[61]⟩ ++ ⟨(pair s[k]).toArray⟩, by simp [ByteArray.size_append, mk_size, pair]⟩], by go_num, by omega, Lib.hid (by rw [List.map_append, hpre.out, List.range_succ, List.map_append, List.map_singleton, List.map_singleton, HE.out]; exact congrArg (fun z => List.map (pcAt s.data.toList) (List.range k) ++ [z]) ((ByteArray.toList_data_append).trans rfl)), Lib.hid hJ3, Lib.hid (Eq.trans hk3 hbx1)⟩
              case measure => simp [intOf]; omega
            · gi_wp2
              refine bodyPost_ret (results_none rfl _ _ _) rfl ?_
              exact ⟨⟨_, rfl⟩, .inr ⟨_, trivial, hx3⟩⟩
        · have HE := Lib.hid (hpc.trans (piece_one (s := s.data.toList) hlt (.inl HP.out)))
          clear hpc
          gi_wp2_with (first | (refine ⟨trivial, ?_⟩; gi_at_call 40; refine (callsIn_wide.2 (pair_any _ _)).mono ?_; rintro e w1 ⟨rfl, hb1⟩; have hJ1 := abides_below hJ hJs hb1; have hbx1 := (hb1.block _ hbl).trans hbx; have hc1 := Boxed.cell hbx1; obtain ⟨fn, tmps, assign, body, hy, hR⟩ := hY pre ⟨s.extract k (k + 1), by simp [ByteArray.size_extract]; omega⟩ w1 hJ1 (by omega); dsimp only at hy) | (refine ⟨trivial, ?_⟩; gi_at_call 35; refine (callsIn_wide.2 (plain_of_qp _ _ HP.out _)).mono ?_; rintro e w2 ⟨rfl, rfl⟩))
          refine hR.mono ?_
          rintro e W3 (⟨rfl, hJ3, hk3⟩ | ⟨rfl, hx3⟩)
          · gi_wp2
            go_roundw
            case rel => exact ⟨k + 1, pre ++ [⟨s.extract k (k + 1), by simp [ByteArray.size_extract]; omega⟩], by go_num, by omega, Lib.hid (by rw [List.map_append, hpre.out, List.range_succ, List.map_append, List.map_singleton, List.map_singleton, HE.out]; exact congrArg (fun z => List.map (pcAt s.data.toList) (List.range k) ++ [z]) ((ext1 s k hlt).trans rfl)), Lib.hid hJ3, Lib.hid (Eq.trans hk3 hbx1)⟩
            case measure => simp [intOf]; omega
          · gi_wp2
            refine bodyPost_ret (results_none rfl _ _ _) rfl ?_
            exact ⟨⟨_, rfl⟩, .inr ⟨_, trivial, hx3⟩⟩
    · obtain rfl : k = s.size := by omega
      gi_wp2
      go_end0
      exact ⟨⟨_, rfl⟩, .inl ⟨pre, hpre.out, hJs⟩⟩
end Go.Proofs.Ytbkhgmehfgfmfaa
