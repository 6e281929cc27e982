/- nuncioref04.bits, digit: rows of ints. -/
import Derived.Test.YtbkhgmehfgfmfaaDoorBma
set_option linter.unusedVariables false
set_option synthInstance.maxSize 4000
namespace Nun
open Go Go.RowKit
/-- Ints as cells. -/
def natCells (l : List Nat) : List Value := l.map fun (n : Nat) => .int .i64 (n : Int)
theorem natCells_snoc (l : List Nat) (n : Nat) : natCells (l ++ [n]) = natCells l ++ [.int .i64 n] := by simp [natCells]
def OwnN (B : Nat) (e : TypeId) (v : Value) (l : List Nat) (w : World) : Prop := w.ownsRow B e 1 v l.length (natCells l)
theorem OwnN.kept {B : Nat} {e : TypeId} {v : Value} {l : List Nat} {w w' : World} (h : OwnN B e v l w) (k : Below w.heap.size w w') : OwnN B e v l w' :=
  World.ownsRow.kept (row := none) h ⟨k.os, k.tape, k.output, k.size, fun i hi _ => k.block i hi⟩ (by cases v.ownBlock <;> simp)
theorem OwnN.made {B : Nat} {e : TypeId} (w : World) (hB : B ≤ w.heap.size) (cap : Nat) (cs : Array Value) (hc : cs.size = cap) (hm : cap ≤ maxLen) : OwnN B e (.slice (some ⟨w.heap.size, 0, none⟩) 0 cap) [] (w.alloc (.cells cs e)) :=
  World.ownsRow_made (size := 1) w cs cap hB hm (by omega)
theorem pushn {P : Program} {ops : Array Oper} {rest : List Oper} {o : Oper} {a : Act} {Q : Exit → Act → World → Prop} (hgd : o.guard = none) (s x : Operand) (t : TypeId)
    (ho : o.op = .call { callee := .builtin .append, args := #[s, x], argTypes := #[t, t] })
    (e : TypeId) (ht : P.underlying t = some (.slice e)) (hi : (P.info? e).map (fun i => (i.zero, i.size, i.bytes)) = some (some (.int .i64 0), 1, 8))
    (B : Nat) (w : World) (v : Value) (l : List Nat) (hs : a.eval s = v) (hown : OwnN B e v l w) (m : Int) (c : Nat) (hm : m = c)
    (hx : a.eval x = .slice (some ⟨w.heap.size, 0, none⟩) 1 1) (hmax : (l.length + 1) * 8 ≤ 140737488355328) (hB : B ≤ w.heap.size)
    (h : ∀ v' w', OwnN B e v' (l ++ [c]) w' → w.grownBy w' v.ownBlock → Below B w w' → w.heap.size < w'.heap.size → wpList P ops Q rest (a.put o.dst v') w') :
    wpList P ops Q (o :: rest) a (w.alloc (.cells #[.int .i64 m] e)) := by
  subst hm
  exact push1 hgd s x t ho e (.int .i64 0) 1 8 ht hi rfl (by decide) B w v _ _ hs hown [.int .i64 c] rfl (by simp [Value.oneCell']) hx (by omega) (by omega) hB
    fun g cap w' h1 h2 h3 h4 h5 => h _ w' (by unfold OwnN; rw [natCells_snoc, List.length_append]; exact h2) h3 h4 h5
/-- The bits of a byte, of bytes. -/
def bits8 (c : UInt8) : List Nat := [c.toNat / 128 % 2, c.toNat / 64 % 2, c.toNat / 32 % 2, c.toNat / 16 % 2, c.toNat / 8 % 2, c.toNat / 4 % 2, c.toNat / 2 % 2, c.toNat % 2]
def bitsL (l : List UInt8) : List Nat := l.flatMap bits8
theorem bitsL_snoc (l : List UInt8) (c : UInt8) : bitsL (l ++ [c]) = bitsL l ++ bits8 c := by unfold bitsL; rw [List.flatMap_append]; simp
theorem bitsL_len (l : List UInt8) : (bitsL l).length = 8 * l.length := by
  induction l with
  | nil => rfl
  | cons c l ih => show (bits8 c ++ bitsL l).length = _; rw [List.length_append, ih]; simp [bits8]; omega
/-- A row of ints that can be read. -/
def RowN (v : Value) (l : List Nat) (w : World) : Prop := ∃ g o cap, v = .slice (some ⟨g, o, none⟩) l.length cap ∧ l.length ≤ cap ∧ g < w.heap.size ∧ ∀ (j x : Nat), l[j]? = some x → w.cell? ⟨g, o + j, none⟩ = some (.int .i64 x)
theorem RowN.kept {v : Value} {l : List Nat} {w w' : World} (h : RowN v l w) (k : Below w.heap.size w w') : RowN v l w' := by
  obtain ⟨g, o, cap, rfl, hc, hg, hr⟩ := h
  exact ⟨g, o, cap, rfl, hc, Nat.lt_of_lt_of_le hg k.size, fun j x hj => (k.cell (p := ⟨g, o + j, none⟩) hg).trans (hr j x hj)⟩
/-- The number of six bits. -/
def six (l : List Nat) : Nat → Nat
  | 0 => 0
  | i + 1 => 2 * six l i + (l[i]?).getD 0
theorem bits8_snoc (c : UInt8) (j : Nat) (h : j < 8) : (bits8 c).take (j + 1) = (bits8 c).take j ++ [(bits8 c).getD j 0] := by
  rw [List.take_succ_eq_append_getElem (by simpa [bits8] using h)]; simp [List.getD, List.getElem?_eq_getElem (l := bits8 c) (i := j) (by simpa [bits8] using h)]
end Nun
namespace Go.Proofs.YtbkhgmehfgfmfaaDoor
open Go.RowKit Nun
theorem infoInt : (Tryd.prog.info? 3).map (fun i => (i.zero, i.size, i.bytes)) = some (some (.int .i64 0), 1, 8) := by kernel_rfl
set_option maxHeartbeats 2000000 in
theorem bits_ref (s : ByteArray) (w : World) (hs : s.size ≤ 1000000) : Calls Tryd.prog 26 #[.string s] w fun e w' => ∃ v, e = .returned v ∧ OwnN w.heap.size 3 v (bitsL s.data.toList) w' ∧ Below w.heap.size w w' := by
  have hlen : s.data.toList.length = s.size := rfl
  have HL := Lib.hid hlen; clear hlen
  go_enter Tryd.func26, Tryd.ntmps26
  go_wp2
  go_loopw [3, 4, 5] (fun v i _ wr => ∃ (k : Nat), k ≤ s.size ∧ i = .int .i64 k ∧ OwnN w.heap.size 3 v (bitsL (s.data.toList.take k)) wr ∧ Below w.heap.size w wr)
    (fun _ i _ _ => s.size - (intOf i).toNat)
  case atStart => exact ⟨0, Nat.zero_le _, rfl, OwnN.made w (Nat.le_refl _) _ _ rfl (by decide), (Below.refl _ _).alloc (Nat.le_refl _) _⟩
  case round =>
    obtain ⟨k, hk, rfl, hown, hbel⟩ := hrel
    have hbl : (bitsL (s.data.toList.take k)).length ≤ 8 * k := by rw [bitsL_len, List.length_take]; omega
    by_cases hlt : k < s.size
    · have hst : bitsL (s.data.toList.take (k + 1)) = bitsL (s.data.toList.take k) ++ bits8 s[k] := by
        rw [take_snoc _ _ (by rw [HL.out]; exact hlt), bitsL_snoc]; rfl
      generalize bitsL (s.data.toList.take k) = acc at *
      have HS := Lib.hid hst; clear hst
      have hc8 := s[k].toNat_lt
      go_wp2
      go_loopw [3, 5] (fun v q wr1 => ∃ (j : Nat), j ≤ 8 ∧ q = .int .i64 ((128 / 2 ^ j : Nat) : Int) ∧ OwnN w.heap.size 3 v (acc ++ (bits8 s[k]).take j) wr1 ∧ Below w.heap.size w wr1)
        (fun _ q _ => (intOf q).toNat)
      case atStart => exact ⟨0, by omega, rfl, by simpa using hown, hbel⟩
      case round =>
        clear hown hbel
        obtain ⟨j, hj, rfl, hown, hbel⟩ := hrel
        by_cases hj8 : j < 8
        · obtain ⟨b, hb⟩ : ∃ b, (bits8 s[k]).getD j 0 = b := ⟨_, rfl⟩
          have hsn := bits8_snoc s[k] j hj8
          rw [hb] at hsn
          have hsn' := Lib.hid (show acc ++ (bits8 s[k]).take (j + 1) = acc ++ (bits8 s[k]).take j ++ [b] by rw [hsn, List.append_assoc]); clear hsn
          have hl : ((acc ++ (bits8 s[k]).take j).length + 1) * 8 ≤ 140737488355328 := by
            rw [List.length_append, List.length_take]; omega
          have HB := Lib.hid hb; clear hb
          have hl' := Lib.hid hl; clear hl
          obtain rfl | rfl | rfl | rfl | rfl | rfl | rfl | rfl : j = 0 ∨ j = 1 ∨ j = 2 ∨ j = 3 ∨ j = 4 ∨ j = 5 ∨ j = 6 ∨ j = 7 := by omega
          all_goals
            go_wp2_with (at_builtin; refine pushn (by rfl) _ _ _ (by rfl) 3 Tryd.underlying46 infoInt w.heap.size wr _ _ (by rfl) hown _ b (by rw [← HB.out]; simp [bits8]) (by rfl) hl'.out hbel.size ?_; intro v1 w1 hown1 hgr hb1 hsz1)
            go_roundw
            case rel =>
              have hrow := hown1
              rw [← hsn'.out] at hrow
              first | exact ⟨1, by omega, by go_num, hrow, hbel.trans hb1⟩ | exact ⟨2, by omega, by go_num, hrow, hbel.trans hb1⟩ | exact ⟨3, by omega, by go_num, hrow, hbel.trans hb1⟩ | exact ⟨4, by omega, by go_num, hrow, hbel.trans hb1⟩ | exact ⟨5, by omega, by go_num, hrow, hbel.trans hb1⟩ | exact ⟨6, by omega, by go_num, hrow, hbel.trans hb1⟩ | exact ⟨7, by omega, by go_num, hrow, hbel.trans hb1⟩ | exact ⟨8, by omega, by go_num, hrow, hbel.trans hb1⟩
            case measure => simp [intOf]
        · obtain rfl : j = 8 := by omega
          have he : acc ++ (bits8 s[k]).take 8 = bitsL (s.data.toList.take (k + 1)) := by rw [HS.out]; rfl
          rw [he] at hown
          clear he
          go_wp2
          go_roundw
          case rel => exact ⟨k + 1, by omega, by go_num, hown, hbel⟩
          case measure => simp [intOf]; omega
    · obtain rfl : k = s.size := by omega
      rw [List.take_of_length_le (by rw [HL.out]; exact Nat.le_refl _)] at hown
      go_wp2
      go_ret
      exact ⟨_, rfl, hown, hbel⟩
end Go.Proofs.YtbkhgmehfgfmfaaDoor
