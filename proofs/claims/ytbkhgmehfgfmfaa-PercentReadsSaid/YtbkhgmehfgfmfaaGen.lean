/- Small lemmas on strings as lists of bytes. -/
import Derived.Test.YtbkhgmehfgfmfaaKit
import Derived.Lib.Strings
import Derived.Lib.IndexBytes
set_option linter.unusedVariables false
namespace Nun
open Go Go.RowKit
theorem ext1 (s : ByteArray) (k : Nat) (h : k < s.size) : (s.extract k (k + 1)).data.toList = [s[k]] := by
  have h' : k < s.data.toList.length := h
  rw [Lib.extract_data, List.drop_eq_getElem_cons h', Nat.add_sub_cancel_left]; rfl
theorem mk_size (l : List UInt8) : (ByteArray.mk l.toArray).size = l.length := rfl
theorem u8_of {c : Int} (h : (Lit.int .u8 c).wf = true) : ∃ d : UInt8, c = d.toNat := by
  have h1 : IntKind.min .u8 = 0 := rfl
  have h2 : IntKind.max .u8 = 255 := rfl
  have : 0 ≤ c ∧ c ≤ 255 := by simpa [Lit.wf, h1, h2] using h
  exact ⟨UInt8.ofNat c.toNat, by simp; omega⟩
end Nun
