/- Small lemmas on strings as lists of bytes. -/
import Derived.Test.YtdfflbpifpoogaaDoorKit
import Derived.Lib.Strings
import Derived.Lib.IndexBytes
set_option linter.unusedVariables false
namespace Nun
open Go Go.RowKit
theorem ext1 (s : ByteArray) (k : Nat) (h : k < s.size) : (s.extract k (k + 1)).data.toList = [s[k]] := by
  have h' : k < s.data.toList.length := h
  rw [Lib.extract_data, List.drop_eq_getElem_cons h', Nat.add_sub_cancel_left]; rfl
theorem conv_one {P : Program} {src dst e : TypeId} (hs : P.underlying src = some (.slice e)) (he : P.underlying e = some (.int .u8)) (hd : P.underlying dst = some .string) (w : World) (x : UInt8) :
    (convert src dst (.slice (some ⟨w.heap.size, 0, none⟩) 1 1)).run P (w.alloc (.cells #[.int .u8 x.toNat] e)) = .ok (.string ⟨#[x]⟩) (w.alloc (.cells #[.int .u8 x.toNat] e)) :=
  run_convert_bytes_back _ src dst e ⟨w.heap.size, 0, none⟩ 1 [x] hs he hd (by
    intro j hj
    match j, hj with
    | 0, hj => simp [Addr.add])
theorem mk_size (l : List UInt8) : (ByteArray.mk l.toArray).size = l.length := rfl
theorem u8_of {c : Int} (h : (Lit.int .u8 c).wf = true) : ∃ d : UInt8, c = d.toNat := by
  have h1 : IntKind.min .u8 = 0 := rfl
  have h2 : IntKind.max .u8 = 255 := rfl
  have : 0 ≤ c ∧ c ≤ 255 := by simpa [Lit.wf, h1, h2] using h
  exact ⟨UInt8.ofNat c.toNat, by simp; omega⟩
end Nun
