/- Small general lemmas of this claim: bytes by enumeration, endings of walks, regions that draw their order and call functions that leave old memory alone. -/
import Derived.WalkKit
import Derived.WalkSpells
import Derived.WalkLawsBesides
import Derived.Lib.Hide
import Derived.BigQuiet
import Derived.Lib.QuietBelow
import Derived.ShutString
import Derived.Deep.Light
import Derived.Lib.UnsafeStr
set_option linter.unusedVariables false
namespace Nun
open Go Go.RowKit

instance decU8 {p : UInt8 → Prop} [DecidablePred p] : Decidable (∀ c, p c) :=
  decidable_of_iff (∀ i : Fin 256, p ⟨⟨i⟩⟩) ⟨fun h c => h c.toBitVec.toFin, fun h i => h _⟩

/-- Returned a value, old memory as it was. -/
def Ret (v : Value) (w : World) (e : Ending) (w' : World) : Prop := e = .returned v ∧ Below w.heap.size w w'
/-- Returned a value, memory the very same. -/
def Same (v : Value) (w : World) (e : Ending) (w' : World) : Prop := e = .returned v ∧ w = w'

theorem r1 {v v' : Value} (h : v = v') : Ending.returned v = .returned v' := by rw [h]
theorem t2 {a b c d : Value} (h : a = b) (h' : c = d) : Ending.returned (.tuple #[a, c]) = .returned (.tuple #[b, d]) := by rw [h, h']
theorem t3 {a b c d e f : Value} (h : a = b) (h' : c = d) (h'' : e = f) : Ending.returned (.tuple #[a, c, e]) = .returned (.tuple #[b, d, f]) := by rw [h, h', h'']
theorem vi {k : IntKind} {a b : Int} (h : a = b) : Value.int k a = .int k b := by rw [h]
theorem vb {a b : Bool} (h : a = b) : Value.bool a = .bool b := by rw [h]
theorem vs {a b : List UInt8} (h : a = b) : Value.string ⟨a.toArray⟩ = .string ⟨b.toArray⟩ := by rw [h]
theorem vS {s : ByteArray} {b : List UInt8} (h : s.data.toList = b) : Value.string s = .string ⟨b.toArray⟩ := by
  subst h; rfl

theorem same_ret {P : Program} {f : FuncId} {args : Array Value} {w : World} {v : Value} (h : Calls P f args w (Same v w)) : Calls P f args w (Ret v w) :=
  h.mono fun _ _ ⟨he, hw⟩ => ⟨he, hw ▸ Below.refl _ _⟩
theorem ret_quiet {P : Program} {f : FuncId} {args : Array Value} {w : World} {d : Nat} {os : Array Obj} {v : Value} (h : ∀ w, Calls P f args w (Ret v w)) :
    Calls P f args (Go.Sort.grow (redrawn w d) os) fun e w'' => e = .returned v ∧ ∃ p : Regrown, w'' = Go.Sort.grow (redrawn w p.d) p.os := Calls.regrown_of (h _)
theorem same_quiet {P : Program} {f : FuncId} {args : Array Value} {w : World} {d : Nat} {os : Array Obj} {v : Value} (h : ∀ w, Calls P f args w (Same v w)) :
    Calls P f args (Go.Sort.grow (redrawn w d) os) fun e w'' => e = .returned v ∧ ∃ p : Regrown, w'' = Go.Sort.grow (redrawn w p.d) p.os := ret_quiet fun w => same_ret (h w)
/-- .. in the class of worlds that differ by draws alone. -/
theorem same_q {P : Program} {f : FuncId} {args : Array Value} {w : World} {n : Nat} {v : Value} (h : ∀ w, Calls P f args w (Same v w)) :
    Calls P f args (w.drewN n) fun e w'' => e = .returned v ∧ ∃ m, w'' = w.drewN m := Calls.quiet_of_same ((h _).mono fun _ _ ⟨he, hw⟩ => ⟨he, hw.symm⟩)
theorem below_drewN' (w : World) (n : Nat) : Below w.heap.size w (w.drewN n) := ⟨rfl, rfl, rfl, Nat.le_refl _, fun _ _ => rfl⟩
theorem below_of {w w1 w2 : World} (h : Below w.heap.size w w1) (k : Below w1.heap.size w1 w2) : Below w.heap.size w w2 := h.trans (k.mono h.size)
theorem conv_two {P : Program} {src dst e : TypeId} (hs : P.underlying src = some (.slice e)) (he : P.underlying e = some (.int .u8)) (hd : P.underlying dst = some .string) (w : World) (x y : UInt8) :
    (convert src dst (.slice (some ⟨w.heap.size, 0, none⟩) 2 2)).run P (w.alloc (.cells #[.int .u8 x.toNat, .int .u8 y.toNat] e)).drew = .ok (.string ⟨#[x, y]⟩) (w.alloc (.cells #[.int .u8 x.toNat, .int .u8 y.toNat] e)).drew :=
  run_convert_bytes_back _ src dst e ⟨w.heap.size, 0, none⟩ 2 [x, y] hs he hd (by
    intro j hj
    match j, hj with
    | 0, hj => simp [Addr.add]
    | 1, hj => simp [Addr.add])
/-- 'append(out, x)', out a slice of the call's own, x just laid in a block of its own. -/
theorem push1 {P : Program} {ops : Array Oper} {rest : List Oper} {o : Oper} {a : Act} {Q : Exit → Act → World → Prop} (hgd : o.guard = none) (s x : Operand) (t : TypeId)
    (ho : o.op = .call { callee := .builtin .append, args := #[s, x], argTypes := #[t, t] })
    (e : TypeId) (z : Value) (size bytes : Nat) (ht : P.underlying t = some (.slice e)) (hi : (P.info? e).map (fun i => (i.zero, i.size, i.bytes)) = some (some z, size, bytes))
    (hzs : z.cells.size = size) (hsz : 0 < size) (B : Nat) (w : World) (v : Value) (n : Nat) (xs : List Value) (hs : a.eval s = v) (hown : w.ownsRow B e size v n xs)
    (cells : List Value) (hcs : cells.length = size) (h1 : ∀ u ∈ cells, u.oneCell' = true) (hx : a.eval x = .slice (some ⟨w.heap.size, 0, none⟩) 1 1)
    (hmax : (n + 1) * bytes ≤ 140737488355328) (hn : n + 1 ≤ 140737488355328) (hB : B ≤ w.heap.size)
    (h : ∀ g cap w', B ≤ g → w'.ownsRow B e size (.slice (some ⟨g, 0, none⟩) (n + 1) cap) (n + 1) (xs ++ cells) → w.grownBy w' v.ownBlock → Below B w w' → w.heap.size < w'.heap.size →
      wpList P ops Q rest (a.put o.dst (.slice (some ⟨g, 0, none⟩) (n + 1) cap)) w') :
    wpList P ops Q (o :: rest) a (w.alloc (.cells cells.toArray e)) := by
  obtain ⟨i0, hi0, hz0, hz1, hz2⟩ := info_parts hi
  refine wpList_append_own _ hgd s x t ho B e i0 z size bytes ht hi0 hz0 hz1 hz2 hzs hsz v n xs hs (hown.alloc _) ⟨w.heap.size, 0, none⟩ 1 1 cells hx (by omega) ?_ h1 (by unfold maxLen; omega) hmax (by simp; omega) ?_
  · intro j u hu
    have : (w.alloc (.cells cells.toArray e)).heap[w.heap.size]? = some (.cells cells.toArray e (0, 0)) := heap_alloc_new w _
    have hadd : (⟨w.heap.size, 0, none⟩ : Addr).add j = ⟨w.heap.size, j, none⟩ := by unfold Addr.add; split <;> simp_all
    rw [hadd, cell_of_row _ _ _ _ _ _ this]; simpa using hu
  · intro v' w' hown' hg _
    have hB2 : Below B w w' := (((Below.refl B w).alloc hB _).grown hg (by simp; omega) (fun k hk => (hown.lt k hk).1))
    have hsz := hg.size
    simp at hsz
    rcases hown'.2 with ⟨_, h0⟩ | ⟨g, cap, cur, rfl, hg0, r⟩
    · omega
    · exact h g cap w' hg0 hown' ⟨hg.os, hg.tape, hg.output, by omega, fun k hk hne => (hg.block k (by simp; omega) hne).trans (Lib.alloc_old w _ k hk)⟩ hB2 (by omega)

/-- 'string(out)', out a slice of bytes of the call's own. -/
theorem conv_own {P : Program} {src dst e : TypeId} (hs : P.underlying src = some (.slice e)) (he : P.underlying e = some (.int .u8)) (hd : P.underlying dst = some .string) {w : World} {B : Nat} {v : Value} {l : List UInt8}
    (h : w.ownsRow B e 1 v l.length (Lib.byteCells l)) : (convert src dst v).run P w = .ok (.string ⟨l.toArray⟩) w := by
  rcases h.2 with ⟨rfl, h0⟩ | ⟨g, cap, cur, rfl, r⟩
  · have : l = [] := by simpa using h0
    subst this
    exact run_convert_bytes_nil (w := w) src e hs he 0 0 dst hd
  · refine run_convert_bytes_back _ src dst e ⟨g, 0, none⟩ cap l hs he hd fun j hj => ?_
    exact h.cells (g := g) rfl j _ (by simp [Lib.byteCells, hj])
/-- A slice of bytes of the call's own (from block B on) that holds these. -/
def OwnB (B : Nat) (e : TypeId) (v : Value) (l : List UInt8) (w : World) : Prop := w.ownsRow B e 1 v l.length (Lib.byteCells l)
theorem OwnB.nil (B : Nat) (e : TypeId) (w : World) : OwnB B e (.slice none 0 0) [] w := World.ownsRow_nil _ _ _ _
theorem OwnB.kept {B : Nat} {e : TypeId} {v : Value} {l : List UInt8} {w w' : World} (h : OwnB B e v l w) (k : Below w.heap.size w w') : OwnB B e v l w' :=
  World.ownsRow.kept (row := none) h ⟨k.os, k.tape, k.output, k.size, fun i hi _ => k.block i hi⟩ (by cases v.ownBlock <;> simp)
theorem OwnB.made {B : Nat} {e : TypeId} (w : World) (hB : B ≤ w.heap.size) (cap : Nat) (cs : Array Value) (hc : cs.size = cap) (hm : cap ≤ maxLen) : OwnB B e (.slice (some ⟨w.heap.size, 0, none⟩) 0 cap) [] (w.alloc (.cells cs e)) :=
  World.ownsRow_made w cs cap hB hm (by omega)
theorem byteCells_snoc (l : List UInt8) (c : UInt8) : Lib.byteCells (l ++ [c]) = Lib.byteCells l ++ [.int .u8 c.toNat] := by simp [Lib.byteCells]
theorem pushb {P : Program} {ops : Array Oper} {rest : List Oper} {o : Oper} {a : Act} {Q : Exit → Act → World → Prop} (hgd : o.guard = none) (s x : Operand) (t : TypeId)
    (ho : o.op = .call { callee := .builtin .append, args := #[s, x], argTypes := #[t, t] })
    (e : TypeId) (ht : P.underlying t = some (.slice e)) (hi : (P.info? e).map (fun i => (i.zero, i.size, i.bytes)) = some (some (.int .u8 0), 1, 1))
    (B : Nat) (w : World) (v : Value) (l : List UInt8) (hs : a.eval s = v) (hown : OwnB B e v l w) (c : UInt8)
    (hx : a.eval x = .slice (some ⟨w.heap.size, 0, none⟩) 1 1) (hmax : l.length + 1 ≤ 140737488355328) (hB : B ≤ w.heap.size)
    (h : ∀ g cap w', B ≤ g → OwnB B e (.slice (some ⟨g, 0, none⟩) (l.length + 1) cap) (l ++ [c]) w' → w.grownBy w' v.ownBlock → Below B w w' → w.heap.size < w'.heap.size →
      wpList P ops Q rest (a.put o.dst (.slice (some ⟨g, 0, none⟩) (l.length + 1) cap)) w') :
    wpList P ops Q (o :: rest) a (w.alloc (.cells #[.int .u8 c.toNat] e)) :=
  push1 hgd s x t ho e (.int .u8 0) 1 1 ht hi rfl (by decide) B w v _ _ hs hown [.int .u8 c.toNat] rfl (by simp [Value.oneCell']) hx (by omega) (by omega) hB
    fun g cap w' h1 h2 h3 h4 h5 => h g cap w' h1 (by unfold OwnB; rw [byteCells_snoc, List.length_append]; exact h2) h3 h4 h5
end Nun
