/- A row of bytes in memory that the call itself made of a text: read, written, made a text again. -/
import Derived.Test.YtdfflbpifpoogaaDoorGen
import Derived.Laws.IdiomStrings
set_option linter.unusedVariables false
namespace Nun
open Go Go.RowKit
def BytesAt (g : Nat) (l : List UInt8) (w : World) : Prop := g < w.heap.size ∧ ∀ (j : Nat) (c : UInt8), l[j]? = some c → w.cell? ⟨g, j, none⟩ = some (.int .u8 c.toNat) ∧ w.frozen? ⟨g, j, none⟩ = false
theorem bytes_made {P : Program} (w : World) (src dst e : TypeId) (s : ByteArray) (hs : P.underlying src = some .string) (hd : P.underlying dst = some (.slice e)) (he : P.underlying e = some (.int .u8)) :
    ∃ cap w1, (convert src dst (.string s)).run P w = .ok (.slice (some ⟨w.heap.size, 0, none⟩) s.size cap) w1 ∧ s.size ≤ cap ∧ BytesAt w.heap.size s.data.toList w1 ∧ Below w.heap.size w w1 := by
  obtain ⟨cap, hcap⟩ : ∃ cap, grownCap w s.size 0 e = cap := ⟨_, rfl⟩
  have hge : s.size ≤ cap := by rw [← hcap]; exact grownCap_ge _ _ _ _
  refine ⟨cap, _, by rw [run_bytes_of_string w src dst e s hs hd he, hcap], hge, ⟨by simp, fun j c hj => ?_⟩, ?_⟩
  · have hjs : j < s.size := (List.getElem?_eq_some_iff.1 hj).1
    have hrow : (w.drew.alloc (.cells (bytesRow s cap) e ((bytesRow s cap).size, (bytesRow s cap).size + 1))).heap[w.heap.size]? = some (.cells (bytesRow s cap) e ((bytesRow s cap).size, (bytesRow s cap).size + 1)) := heap_alloc_new w.drew _
    have hsz : (bytesRow s cap).size = cap := by
      unfold bytesRow; rw [Array.size_append, Array.size_map, Array.size_replicate, show s.data.size = s.size from rfl]; omega
    refine ⟨?_, ?_⟩
    · rw [cell_of_row _ _ _ _ _ _ hrow]
      unfold bytesRow
      rw [Array.getElem?_append_left (by rw [Array.size_map]; exact hjs), Array.getElem?_map]
      have : s.data[j]? = some c := by rw [← Array.getElem?_toList]; exact hj
      rw [this]; rfl
    · unfold World.frozen?
      simp only [hrow]
      rw [hsz]; simp; omega
  · exact (below_drewN' w 1).alloc (Nat.le_refl _) _
theorem BytesAt.kept {g : Nat} {l : List UInt8} {w w' : World} (h : BytesAt g l w) (k : Below w.heap.size w w') : BytesAt g l w' :=
  ⟨Nat.lt_of_lt_of_le h.1 k.size, fun j c hj => ⟨(k.cell (p := ⟨g, j, none⟩) h.1).trans (h.2 j c hj).1, (k.frozen (p := ⟨g, j, none⟩) h.1).trans (h.2 j c hj).2⟩⟩
theorem BytesAt.put {g : Nat} {l : List UInt8} {w : World} (h : BytesAt g l w) (k : Nat) (hk : k < l.length) (d : UInt8) : BytesAt g (l.set k d) (w.setCell ⟨g, k, none⟩ (.int .u8 d.toNat)) := by
  have hc := (h.2 k _ (List.getElem?_eq_getElem hk)).1
  refine ⟨by have := h.1; simpa using this, fun j c hj => ?_⟩
  by_cases hjk : j = k
  · subst hjk
    rw [List.getElem?_set_self hk] at hj
    cases hj
    exact ⟨World.cell?_setCell_same _ _ _ hc, by rw [World.frozen?_setCell]; exact (h.2 _ _ (List.getElem?_eq_getElem hk)).2⟩
  · rw [List.getElem?_set_ne (by omega)] at hj
    obtain ⟨h1, h2⟩ := h.2 j c hj
    exact ⟨by rw [World.cell?_setCell_other _ _ _ _ (by simp [Ne.symm hjk])]; exact h1, by rw [World.frozen?_setCell]; exact h2⟩
theorem BytesAt.back {P : Program} {src dst e : TypeId} (hs : P.underlying src = some (.slice e)) (he : P.underlying e = some (.int .u8)) (hd : P.underlying dst = some .string) {g : Nat} {l : List UInt8} {w : World} (h : BytesAt g l w) (cap : Nat) :
    (convert src dst (.slice (some ⟨g, 0, none⟩) l.length cap)).run P w = .ok (.string ⟨l.toArray⟩) w :=
  run_convert_bytes_back w src dst e ⟨g, 0, none⟩ cap l hs he hd fun j hj => by
    have : (⟨g, 0, none⟩ : Addr).add j = ⟨g, j, none⟩ := by unfold Addr.add; split <;> simp_all
    rw [this]; exact (h.2 j _ (List.getElem?_eq_getElem hj)).1
end Nun
