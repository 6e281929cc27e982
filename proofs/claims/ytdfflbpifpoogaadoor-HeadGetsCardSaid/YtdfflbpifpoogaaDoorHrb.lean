/- Law 13's awake. -/
import Derived.Test.YtdfflbpifpoogaaDoorHra
import Derived.Test.YtdfflbpifpoogaaDoorHsq
set_option linter.unusedVariables false
set_option synthInstance.maxSize 4000
namespace Nun
open Go Go.RowKit
theorem one_row {v : Value} {q : Fld} {w : World} (h : FldRow v [q] w) (X Y : ByteArray) (hX : (⟨q.1.toArray⟩ : ByteArray) = X) (hY : (⟨q.2.toArray⟩ : ByteArray) = Y) : ∃ g cap, v = .slice (some ⟨g, 0, none⟩) 1 cap ∧ 1 ≤ cap ∧ g < w.heap.size ∧ w.cell? ⟨g, 0, none⟩ = some (.string X) ∧ w.cell? ⟨g, 1, none⟩ = some (.string Y) := by
  obtain ⟨a, cap, h1, h2⟩ := h
  obtain ⟨g, rfl, h3, h4, h5⟩ := h2.resolve_left (by simp)
  obtain ⟨c0, c1⟩ := h5 0 (by simp)
  exact ⟨g, cap, h1, h3, h4, by rw [← hX]; exact c0, by rw [← hY]; exact c1⟩
theorem ex_split : splitL [65, 58, 32, 98, 13, 10, 32, 99, 13, 10, 13, 10, 120] = .ok [([65], [98, 32, 99])] 12 := by
  have e : itL [65, 58, 32, 98, 13, 10, 32, 99, 13, 10, 13, 10, 120] 0 = [([65, 58, 32, 98], 6), ([32, 99], 10), ([], 12)] := by
    rw [itL_some (k := 4) (by rfl), if_neg (by decide)]
    show _ :: itL [32, 99, 13, 10, 13, 10, 120] 6 = _
    rw [itL_some (k := 2) (by rfl), if_neg (by decide)]
    show _ :: _ :: itL [13, 10, 120] 10 = _
    rw [itL_some (k := 0) (by rfl), if_pos rfl]
    rfl
  unfold splitL
  rw [e]
  rfl
end Nun
namespace Go.Proofs.YtdfflbpifpoogaaDoor
open Go Go.RowKit Nun
set_option maxHeartbeats 2000000 in
set_option maxRecDepth 100000 in
theorem awake13 (w : World) (hm : MaxIs w) : Calls Tryd.prog 13 #[] w (Ret (.bool true) w) := by
  have h1 := split_any ⟨#[65, 58, 32, 98, 13, 10, 32, 99, 13, 10, 13, 10, 120]⟩ w hm (by decide)
  rw [show (ByteArray.mk #[65, 58, 32, 98, 13, 10, 32, 99, 13, 10, 13, 10, 120]).data.toList = [65, 58, 32, 98, 13, 10, 32, 99, 13, 10, 13, 10, 120] from rfl, ex_split] at h1
  have h2 := fun w' => params_any ⟨#[97, 47, 98, 59, 32, 99, 61, 34, 100, 92, 34, 101, 34]⟩ w' (by decide) (.ok [97, 47, 98] [([99], [100, 34, 101])]) (by kernel_rfl)
  have H1 := Lib.hid h1; have H2 := Lib.hid h2; clear h1 h2
  go_enter Tryd.func13, Tryd.ntmps13
  go_wp2_with (first | (go_at_call 9; refine H1.out.mono ?_; rintro e w1 ⟨v, rfl, hown, hb1⟩; have hr1 := Lib.hid (fldRow_own hown); clear hown) | (go_at_call 14; refine (H2.out _).mono ?_; rintro e w2 ⟨u, rfl, hown2, hb2⟩; have hr2 := Lib.hid (fldRow_own hown2); clear hown2; obtain ⟨g1, cap1, rfl, hc1, hg1, c0, c1⟩ := one_row (hr1.out.below hb2) ⟨#[65]⟩ ⟨#[98, 32, 99]⟩ rfl rfl; obtain ⟨g2, cap2, rfl, hc2, hg2, d0, d1⟩ := one_row hr2.out ⟨#[99]⟩ ⟨#[100, 34, 101]⟩ rfl rfl))
  go_ret
  exact ⟨rfl, hb1.trans (hb2.mono hb1.size)⟩
end Go.Proofs.YtdfflbpifpoogaaDoor
