/- nunciolaw13.its; nuncioref13.Quote. -/
import Derived.Test.YtdfflbpifpoogaaDoorHra
import Derived.Test.YtdfflbpifpoogaaDoorHsa
set_option linter.unusedVariables false
set_option synthInstance.maxSize 4000
namespace Nun
open Go Go.RowKit
theorem fldRow_down {v : Value} {F : List Fld} {w : World} {m : Nat} (h : FldRow v F w) : ∃ a cap, v = .slice a F.length cap := ⟨_, _, h.choose_spec.choose_spec.1⟩
end Nun
namespace Go.Proofs.YtdfflbpifpoogaaDoor
open Go Go.RowKit Nun
set_option maxHeartbeats 2000000 in
set_option maxRecDepth 100000 in
theorem its_any (v : Value) (F : List Fld) (w : World) (hF : F.length ≤ 1000000) (hv : FldRow v F w) :
    Calls Tryd.prog 12 #[v] w fun e w' => ∃ u, e = .returned u ∧ w'.ownsRow w.heap.size 45 2 u F.length (fldCells F) ∧ Below w.heap.size w w' := by
  obtain ⟨a, ca, rfl, ha⟩ := hv
  obtain ⟨n, hn⟩ : ∃ n, F.length = n := ⟨_, rfl⟩
  have HA := Lib.hid ha; have HN := Lib.hid hn
  rw [hn] at hF ⊢
  clear ha hn
  obtain ⟨i0, hi0, hz0, hz1, hz2⟩ := info_parts infoFieldR
  go_enter Tryd.func12, Tryd.ntmps12
  go_wp2
  go_loopw [3, 4] (fun v i wr => ∃ (k : Nat), i = .int .i64 k ∧ k ≤ n ∧ wr.ownsRow w.heap.size 45 2 v (F.take k).length (fldCells (F.take k)) ∧ Below w.heap.size w wr)
    (fun _ i _ => n - (intOf i).toNat)
  case atStart => exact ⟨0, rfl, Nat.zero_le _, World.ownsRow_made (size := 2) w _ 0 (Nat.le_refl _) (by decide) (by decide), (Below.refl _ _).alloc (Nat.le_refl _) _⟩
  case round =>
    rename_i u3 u4
    obtain ⟨k, rfl, hk, hown, hbel⟩ := hrel
    by_cases hlt : k < n
    · have hkF : k < F.length := by rw [HN.out]; exact hlt
      obtain ⟨g, rfl, hca, hg, hga⟩ := HA.out.resolve_left (by omega)
      rw [HN.out] at hca
      obtain ⟨c0, c1⟩ := hga k hkF
      replace c0 := (hbel.cell (p := ⟨g, k * 2, none⟩) hg).trans c0
      replace c1 := (hbel.cell (p := ⟨g, k * 2 + 1, none⟩) hg).trans c1
      obtain ⟨X, hX⟩ : ∃ X : ByteArray, (⟨F[k].1.toArray⟩ : ByteArray) = X := ⟨_, rfl⟩
      obtain ⟨Y, hY⟩ : ∃ Y : ByteArray, (⟨F[k].2.toArray⟩ : ByteArray) = Y := ⟨_, rfl⟩
      rw [hX] at c0; rw [hY] at c1
      have hji : (k : Int) < (n : Int) := by omega
      have hlen : (F.take k).length = k := by rw [List.length_take]; omega
      have hnx : F.take (k + 1) = F.take k ++ [(F[k].1, F[k].2)] := List.take_succ_eq_append_getElem hkF
      have HNX := Lib.hid hnx
      obtain ⟨G, hG⟩ : ∃ G, F.take k = G := ⟨_, rfl⟩
      obtain ⟨fk, hfk⟩ : ∃ fk, F[k] = fk := ⟨_, rfl⟩
      rw [hG] at hown hlen
      rw [hfk] at hX hY
      have HX := Lib.hid hX; have HY := Lib.hid hY; have HG := Lib.hid hG; have HFK := Lib.hid hfk
      clear hX hY hga hnx hG hfk
      have hfar : (u3 : Value).ownBlock ≠ some g := by
        intro e
        have := (hown.lt g e).1
        omega
      have hwb : w.heap.size ≤ wr.heap.size := hbel.size
      go_wp2
      go_region_held3 (fun w' => w'.cell? ⟨g, k * 2, none⟩ = some (.string X) ∧ w'.cell? ⟨g, k * 2 + 1, none⟩ = some (.string Y)) (first | go_keep | exact ⟨c0, c1⟩ | (rw [hgrow.cell_far _ (by simp; omega) (Ne.symm hfar), hgrow.cell_far _ (by simp; omega) (Ne.symm hfar)]; first | assumption | go_keep))
        ((refine step_append_lies _ (by rfl) _ _ _ (by rfl) w.heap.size 45 i0 _ 2 32 Tryd.underlying27 hi0 hz0 hz1 hz2 rfl (by omega) u3 G.length (fldCells G) (by rfl) ((hown.alloc _).drew)
              ⟨wr.heap.size, 0, none⟩ 1 1 [.string X, .string Y] (by rfl) (by rfl) (World.news_of_block (cs := #[.string X, .string Y]) (t := 45) (fr := (0, 0)) (heap_alloc_new wr _)) (by simp [Value.oneCell'])
              (by omega) (by unfold maxLen; omega) (by omega) (by simp; omega) (wr.heap.size + 1) (by simp) ?_; intro gg cap w5 hown5 hgrow hat hlt5))
      have HRO := Lib.hid (row_push (a := fk.1) (b := fk.2) hown5 HX.out.symm HY.out.symm)
      have HBE := Lib.hid (Below.grown (((hbel.alloc hwb _).drew)) hgrow (by simp; omega) (fun k h => (hown.lt k h).1))
      clear hown5 hgrow
      go_wp2
      go_roundw
      case rel => exact ⟨k + 1, by go_num, by omega, by have h := HRO.out; rw [hlen] at h; rw [HNX.out, HG.out, HFK.out, List.length_append, hlen]; exact h, HBE.out⟩
      case measure => simp [intOf]; omega
    · obtain rfl : k = n := by omega
      rw [List.take_of_length_le (by rw [HN.out]; exact Nat.le_refl _), HN.out] at hown
      have HO := Lib.hid hown; have HB := Lib.hid hbel
      clear hown hbel
      go_wp2
      go_ret
      exact ⟨_, rfl, HO.out, HB.out⟩
end Go.Proofs.YtdfflbpifpoogaaDoor
