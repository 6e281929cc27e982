/- b64.digit, worth, Encode: bytes by 64 digits. -/
import Derived.Test.YtbkhgmehfgfmfaaDoorBld
import Derived.Test.YtbkhgmehfgfmfaaDoorGen
set_option linter.unusedVariables false
set_option synthInstance.maxSize 4000
namespace Nun
def digits64 : List UInt8 := [65, 66, 67, 68, 69, 70, 71, 72, 73, 74, 75, 76, 77, 78, 79, 80, 81, 82, 83, 84, 85, 86, 87, 88, 89, 90, 97, 98, 99, 100, 101, 102, 103, 104, 105, 106, 107, 108, 109, 110, 111, 112, 113, 114, 115, 116, 117, 118, 119, 120, 121, 122, 48, 49, 50, 51, 52, 53, 54, 55, 56, 57, 43, 47]
def dig (n : Nat) : UInt8 := digits64.getD n 0
def val64 (c : UInt8) : Option Nat := if 65 ≤ c ∧ c ≤ 90 then some (c.toNat - 65) else if 97 ≤ c ∧ c ≤ 122 then some (c.toNat - 71) else if 48 ≤ c ∧ c ≤ 57 then some (c.toNat + 4) else if c = 43 then some 62 else if c = 47 then some 63 else none
def tabRow (i : Nat) : List UInt8 := (digits64.drop (16 * i)).take 16
/-- Where the table stands. -/
def Tab (w : Go.World) : Prop := ∀ i, i < 4 → w.cell? ⟨0, i, none⟩ = some (.string ⟨(tabRow i).toArray⟩)
theorem Tab.lt {w : Go.World} (h : Tab w) : 0 < w.heap.size := Go.World.block_lt_of_cell? w _ (h 0 (by decide))
theorem Tab.kept {w w' : Go.World} (h : Tab w) (hb : Go.RowKit.Below w.heap.size w w') : Tab w' := fun i hi => (hb.cell (p := ⟨0, i, none⟩) h.lt).trans (h i hi)
theorem Tab.kept' {B : Nat} {w w' : Go.World} (h : Tab w) (hB : 0 < B) (hb : Go.RowKit.Below B w w') : Tab w' := fun i hi => (hb.cell (p := ⟨0, i, none⟩) hB).trans (h i hi)
theorem dig_row : ∀ i : Fin 4, ∀ j : Fin 16, (tabRow i.1)[j.1]? = some (dig (16 * i.1 + j.1)) := by decide +kernel
end Nun
namespace Go.Proofs.YtbkhgmehfgfmfaaDoor
open Go.RowKit Nun
theorem and3 (x : Nat) (h : x < 4294967296) : bits .and .u32 (x : Int) 3 = ((x % 4 : Nat) : Int) := by
  rw [show (3 : Int) = ((3 : Nat) : Int) from rfl, u32_and_nat x 3 h (by decide), Nat.and_two_pow_sub_one_eq_mod x 2]
theorem and15 (x : Nat) (h : x < 4294967296) : bits .and .u32 (x : Int) 15 = ((x % 16 : Nat) : Int) := by
  rw [show (15 : Int) = ((15 : Nat) : Int) from rfl, u32_and_nat x 15 h (by decide), Nat.and_two_pow_sub_one_eq_mod x 4]
set_option maxHeartbeats 400000 in
theorem digit_any (n : Nat) (hn : n < 64) (w : World) (hT : Tab w) : Calls Tryd.prog 21 #[.int .u32 n] w (Same (.int .u8 (dig n).toNat) w) := by
  have hc := hT (n / 16) (by omega)
  have hr := dig_row ⟨n / 16, by omega⟩ ⟨n % 16, by omega⟩
  simp only [show 16 * (n / 16) + n % 16 = n from Nat.div_add_mod n 16] at hr
  have e1 : bits .and .u32 ((n : Int) / 16) 3 = ((n / 16 : Nat) : Int) := by
    rw [show (n : Int) / 16 = ((n / 16 : Nat) : Int) by omega, and3 _ (by omega)]; omega
  have e2 : bits .and .u32 (n : Int) 15 = ((n % 16 : Nat) : Int) := and15 n (by omega)
  generalize hx : n / 16 = x at *
  generalize hy : n % 16 = y at *
  have h1 : (x : Int) < 4 := by omega
  have h2 : (y : Int) < 16 := by omega
  have h3 : (tabRow x).length = 16 := by
    have : ∀ i : Fin 4, (tabRow i.1).length = 16 := by decide
    exact this ⟨x, by omega⟩
  have h4 : (ByteArray.mk (tabRow x).toArray).size = 16 := h3
  have H := Lib.hid hr
  clear hr hx hy hn
  have hy : y < 16 := by omega
  go_enter Tryd.func21, Tryd.ntmps21
  go_wp2
  go_ret
  refine ⟨r1 (vi ?_), rfl⟩
  obtain ⟨_, hd⟩ := List.getElem?_eq_some_iff.1 H.out
  rw [← hd]; rfl
set_option maxHeartbeats 400000 in
theorem worth64 (c : UInt8) (w : World) : Calls Tryd.prog 30 #[.int .u8 c.toNat] w (Same (.tuple #[.int .u32 ((val64 c).getD 0), .bool (val64 c).isSome]) w) := by
  go_enter Tryd.func30, Tryd.ntmps30
  go_wp2
  all_goals (go_ret2; refine ⟨t2 (vi ?_) (vb ?_), rfl⟩)
  all_goals (go_light; revert c; decide +kernel)
end Go.Proofs.YtbkhgmehfgfmfaaDoor
