/- From the row's condition to the table's cells; a start that meets the condition. -/
import Derived.Test.YtbkhgmehfgfmfaaDoorRows
import Derived.Test.YtbkhgmehfgfmfaaDoorB64
import Derived.LaidMore
import Derived.ProofKit
import Derived.OpenShut
import Derived.Stop.Joined
set_option linter.unusedVariables false
namespace Nun
open Go
theorem cells_of_strs {H : Type} {enc : TypeId × Value → H} {P : Program} {w : World} {base : Nat} {sp : Nat → Bool} {held : Bool} {fuel : Nat} {t e : TypeId} {n : Nat} {cs : List Value} {zs : List (List UInt8)} {p : List MemPlace}
    (ht : P.underlying t = some (.array n e)) (he : P.underlying e = some .string) (hce : P.cellsOf e = 1)
    (h : DataW.trod enc P w base sp held fuel t cs = some (.agg (zs.map fun z => .lit (.string z)), p)) (i : Nat) (z : List UInt8) (hz : zs[i]? = some z) : cs[i]? = some (.string ⟨z.toArray⟩) := by
  obtain ⟨xs, m, rfl, hx, hl, hn, hel⟩ := DataW.trod_array ht h
  simp only [Prod.mk.injEq, DataW.agg.injEq] at hx
  have hi : i < n := by
    have h1 : zs.length = xs.length := by simpa using congrArg List.length hx.1
    have h2 := (List.getElem?_eq_some_iff.1 hz).1
    omega
  have hxi := hel i hi
  rw [hce, Nat.mul_one] at hxi
  obtain ⟨y, hy⟩ : ∃ y, xs[i]? = some y := ⟨_, List.getElem?_eq_getElem (by omega)⟩
  rw [hy] at hxi
  obtain ⟨s, h1, rfl, _⟩ := DataW.trod_string he hxi
  have h2 : (xs.map (·.1))[i]? = some (.lit (.string s.data.toList)) := by simp [hy]
  rw [← hx.1] at h2
  simp [hz] at h2
  have h3 := congrArg (·[0]?) h1
  simp [List.getElem?_take, List.getElem?_drop] at h3
  rw [h3, h2]
end Nun
namespace Go.Proofs.YtbkhgmehfgfmfaaDoor
open Go.ChangeShapes Go.WideShapes Go.ChangeAt Go.RowKit Nun
theorem gTable : Tryd.prog.globalNamed "nuncio/b64.table" = some 0 := by kernel_rfl
theorem tTable : (Tryd.prog.globals[0]?).map (·.type) = some 50 := by kernel_rfl
theorem cString : Tryd.prog.cellsOf 9 = 1 := by kernel_rfl
theorem door_met (os : Os) (args : Array Value) : laidMetH Tryd.prog [("nuncio/b64.table", Rows.laid_nuncio_b64_table)] ((World.doorLaid Tryd.prog 400 os).forCall (fun _ _ => 0) ⟨#[], args, []⟩).memory :=
  laidMetH_of_parts3 (fuel := 8) (laidMet_of_run' 8 (by kernel_rfl) (by kernel_rfl)) (by kernel_rfl) (by kernel_rfl)
theorem tab_of_laid {W : World} (h : laidMetH Tryd.prog [("nuncio/b64.table", Rows.laid_nuncio_b64_table)] W) : Tab W := by
  rw [MakeChecks.laidMetH_plain _ _ _ (by kernel_rfl)] at h
  obtain ⟨ps, ⟨g0, t0, cs0, f0, p0, q0, hg0, ht0, hv0, hd0, _, _⟩, _, _⟩ := h
  obtain rfl := Option.some.inj (gTable.symm.trans hg0)
  obtain rfl := Option.some.inj (tTable.symm.trans ht0)
  intro i hi
  have hr : ([tabRow 0, tabRow 1, tabRow 2, tabRow 3] : List (List UInt8))[i]? = some (tabRow i) := by
    match i, hi with
    | 0, _ => rfl
    | 1, _ => rfl
    | 2, _ => rfl
    | 3, _ => rfl
  have := cells_of_strs (zs := [tabRow 0, tabRow 1, tabRow 2, tabRow 3]) Tryd.underlying50 Tryd.underlying9 cString hd0 i _ hr
  have hc := World.var?_cell hg0 hv0 i
  rw [hc]; simpa using this
end Go.Proofs.YtbkhgmehfgfmfaaDoor
