/- The laws' helpers: few; Same, SamePairs at equal rows. -/
import Derived.Test.YtdfflbpifpoogaaDoorHrs
import Derived.Test.YtdfflbpifpoogaaDoorHqb
set_option linter.unusedVariables false
set_option synthInstance.maxSize 4000
namespace Nun
open Go Go.RowKit
/-- A row of pairs of texts that can be read. -/
def FldRow (v : Value) (F : List Fld) (w : World) : Prop := ∃ a cap, v = .slice a F.length cap ∧ (F.length = 0 ∨ ∃ g, a = some ⟨g, 0, none⟩ ∧ F.length ≤ cap ∧ g < w.heap.size ∧
  ∀ j (h : j < F.length), w.cell? ⟨g, j * 2, none⟩ = some (.string ⟨F[j].1.toArray⟩) ∧ w.cell? ⟨g, j * 2 + 1, none⟩ = some (.string ⟨F[j].2.toArray⟩))
theorem fldRow_own {w : World} {B e : Nat} {v : Value} {F : List Fld} (h : w.ownsRow B e 2 v F.length (fldCells F)) : FldRow v F w := by
  rcases row_form h with ⟨h1, h0⟩ | ⟨g, cap, h1, _, h2, h3⟩
  · exact ⟨none, 0, by rw [h1, h0], .inl h0⟩
  · refine ⟨_, _, h1, .inr ⟨g, rfl, h3, h2, fun j hj => ?_⟩⟩
    obtain ⟨f0, f1⟩ := fldCells_at F j hj
    subst h1
    have c0 := h.cellAt (j * 2) (by omega)
    have c1 := h.cellAt (j * 2 + 1) (by omega)
    rw [f0] at c0; rw [f1] at c1
    exact ⟨c0, c1⟩
theorem FldRow.below {w w' : World} {v : Value} {F : List Fld} (h : FldRow v F w) (k : Below w.heap.size w w') : FldRow v F w' := by
  obtain ⟨a, cap, h1, h2⟩ := h
  refine ⟨a, cap, h1, h2.imp id ?_⟩
  rintro ⟨g, h3, h4, h5, h6⟩
  exact ⟨g, h3, h4, Nat.lt_of_lt_of_le h5 k.size, fun j hj => ⟨(k.cell (p := ⟨g, j * 2, none⟩) h5).trans (h6 j hj).1, (k.cell (p := ⟨g, j * 2 + 1, none⟩) h5).trans (h6 j hj).2⟩⟩
end Nun
namespace Go.Proofs.YtdfflbpifpoogaaDoor
open Go Go.RowKit Nun
theorem few13 (s : ByteArray) (w : World) (hs : s.size ≤ maxLen) : Calls Tryd.prog 8 #[.string s] w fun e w' => ∃ t : ByteArray, e = .returned (.string t) ∧ t.size ≤ 400 ∧ w = w' := by
  unfold maxLen at hs
  go_enter Tryd.func8, Tryd.ntmps8
  go_wp2
  go_ret
  exact ⟨_, rfl, by simp [ByteArray.size_extract]; omega, rfl⟩
set_option maxHeartbeats 2000000 in
set_option maxRecDepth 100000 in
theorem same_pairs (u v : Value) (F : List Fld) (w : World) (hF : F.length ≤ 1000000) (hu : FldRow u F w) (hv : FldRow v F w) : Calls Tryd.prog 16 #[u, v] w (Ret (.bool true) w) := by
  obtain ⟨a, ca, rfl, ha⟩ := hu
  obtain ⟨b, cb, rfl, hb⟩ := hv
  obtain ⟨n, hn⟩ : ∃ n, F.length = n := ⟨_, rfl⟩
  have HA := Lib.hid ha; have HB := Lib.hid hb; have HN := Lib.hid hn
  rw [hn] at hF ⊢
  clear ha hb hn
  go_enter Tryd.func16, Tryd.ntmps16
  go_wp2
  go_loopw [5] (fun i wr => ∃ j : Nat, i = .int .i64 j ∧ j ≤ n ∧ Below w.heap.size w wr) (fun i _ => n - (intOf i).toNat)
  case atStart => exact ⟨0, rfl, Nat.zero_le _, Below.refl _ _⟩
  case round =>
    obtain ⟨j, rfl, hj, hbel⟩ := hrel
    by_cases hlt : j < n
    · have hjF : j < F.length := by rw [HN.out]; exact hlt
      obtain ⟨g, rfl, hca, hg, hga⟩ := HA.out.resolve_left (by omega)
      obtain ⟨g2, rfl, hcb, hg2, hgb⟩ := HB.out.resolve_left (by omega)
      rw [HN.out] at hca hcb
      obtain ⟨c0, c1⟩ := hga j hjF
      obtain ⟨d0, d1⟩ := hgb j hjF
      replace c0 := (hbel.cell (p := ⟨g, j * 2, none⟩) hg).trans c0
      replace c1 := (hbel.cell (p := ⟨g, j * 2 + 1, none⟩) hg).trans c1
      replace d0 := (hbel.cell (p := ⟨g2, j * 2, none⟩) hg2).trans d0
      replace d1 := (hbel.cell (p := ⟨g2, j * 2 + 1, none⟩) hg2).trans d1
      obtain ⟨X, hX⟩ : ∃ X : ByteArray, (⟨F[j].1.toArray⟩ : ByteArray) = X := ⟨_, rfl⟩
      obtain ⟨Y, hY⟩ : ∃ Y : ByteArray, (⟨F[j].2.toArray⟩ : ByteArray) = Y := ⟨_, rfl⟩
      rw [hX] at c0 d0; rw [hY] at c1 d1
      have hji : (j : Int) < (n : Int) := by omega
      clear hX hY hga hgb
      have hcq0 := fun d os => cell_regrown c0 d os
      have hcq1 := fun d os => cell_regrown c1 d os
      have hdq0 := fun d os => cell_regrown d0 d os
      have hdq1 := fun d os => cell_regrown d1 d os
      go_wp2
      (refine wp_region_quiet_below (by kernel_rfl) (by kernel_rfl) ?_; (repeat (first | go_big_quiet_skip | (go_big_quiet_want; go_big_quiet_op; first | go_big_quiet_on | (apply Exists.intro; refine ⟨fun _ => ?_, ?_⟩; (· (fail)); go_big_quiet_on)))); refine wpQuiet_nil ?_; intro _ hw'; obtain ⟨⟨dq, osq⟩, hw''⟩ := hw'; subst hw'')
      go_wp2
      go_roundw
      case rel => exact ⟨j + 1, by go_num, by omega, hbel.trans ((below_regrown _ _ _).mono hbel.size)⟩
      case measure => simp [intOf]; omega
    · obtain rfl : j = n := by omega
      go_wp2
      go_ret
      exact ⟨rfl, hbel⟩
set_option maxHeartbeats 2000000 in
set_option maxRecDepth 100000 in
theorem same_fields (u v : Value) (F : List Fld) (w : World) (hF : F.length ≤ 1000000) (hu : FldRow u F w) (hv : FldRow v F w) : Calls Tryd.prog 11 #[u, v] w (Ret (.bool true) w) := by
  obtain ⟨a, ca, rfl, ha⟩ := hu
  obtain ⟨b, cb, rfl, hb⟩ := hv
  obtain ⟨n, hn⟩ : ∃ n, F.length = n := ⟨_, rfl⟩
  have HA := Lib.hid ha; have HB := Lib.hid hb; have HN := Lib.hid hn
  rw [hn] at hF ⊢
  clear ha hb hn
  go_enter Tryd.func11, Tryd.ntmps11
  go_wp2
  go_loopw [5] (fun i wr => ∃ j : Nat, i = .int .i64 j ∧ j ≤ n ∧ Below w.heap.size w wr) (fun i _ => n - (intOf i).toNat)
  case atStart => exact ⟨0, rfl, Nat.zero_le _, Below.refl _ _⟩
  case round =>
    obtain ⟨j, rfl, hj, hbel⟩ := hrel
    by_cases hlt : j < n
    · have hjF : j < F.length := by rw [HN.out]; exact hlt
      obtain ⟨g, rfl, hca, hg, hga⟩ := HA.out.resolve_left (by omega)
      obtain ⟨g2, rfl, hcb, hg2, hgb⟩ := HB.out.resolve_left (by omega)
      rw [HN.out] at hca hcb
      obtain ⟨c0, c1⟩ := hga j hjF
      obtain ⟨d0, d1⟩ := hgb j hjF
      replace c0 := (hbel.cell (p := ⟨g, j * 2, none⟩) hg).trans c0
      replace c1 := (hbel.cell (p := ⟨g, j * 2 + 1, none⟩) hg).trans c1
      replace d0 := (hbel.cell (p := ⟨g2, j * 2, none⟩) hg2).trans d0
      replace d1 := (hbel.cell (p := ⟨g2, j * 2 + 1, none⟩) hg2).trans d1
      obtain ⟨X, hX⟩ : ∃ X : ByteArray, (⟨F[j].1.toArray⟩ : ByteArray) = X := ⟨_, rfl⟩
      obtain ⟨Y, hY⟩ : ∃ Y : ByteArray, (⟨F[j].2.toArray⟩ : ByteArray) = Y := ⟨_, rfl⟩
      rw [hX] at c0 d0; rw [hY] at c1 d1
      have hji : (j : Int) < (n : Int) := by omega
      clear hX hY hga hgb
      have hcq0 := fun d os => cell_regrown c0 d os
      have hcq1 := fun d os => cell_regrown c1 d os
      have hdq0 := fun d os => cell_regrown d0 d os
      have hdq1 := fun d os => cell_regrown d1 d os
      go_wp2
      (refine wp_region_quiet_below (by kernel_rfl) (by kernel_rfl) ?_; (repeat (first | go_big_quiet_skip | (go_big_quiet_want; go_big_quiet_op; first | go_big_quiet_on | (apply Exists.intro; refine ⟨fun _ => ?_, ?_⟩; (· (fail)); go_big_quiet_on)))); refine wpQuiet_nil ?_; intro _ hw'; obtain ⟨⟨dq, osq⟩, hw''⟩ := hw'; subst hw'')
      go_wp2
      go_roundw
      case rel => exact ⟨j + 1, by go_num, by omega, hbel.trans ((below_regrown _ _ _).mono hbel.size)⟩
      case measure => simp [intOf]; omega
    · obtain rfl : j = n := by omega
      go_wp2
      go_ret
      exact ⟨rfl, hbel⟩
end Go.Proofs.YtdfflbpifpoogaaDoor
