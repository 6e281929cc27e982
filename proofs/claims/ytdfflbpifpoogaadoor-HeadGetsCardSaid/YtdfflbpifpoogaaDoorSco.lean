/- A scope with jumps to one label, inside a fence (a round of a range over a function); what calls keep, as such a round wants it. -/
import Derived.Test.YtdfflbpifpoogaaDoorGen
import Derived.RangeFuncNested
import Derived.RangeFuncBound
import Derived.RangeFuncCalls
import Derived.RangeFuncLeaves
import Derived.RangeFuncBox
import Derived.Shelf.Abstract
import Derived.Shelf.RegionOpen
import Derived.OwnWalkIn
import Derived.TacticsInMore
import Derived.LoopNIn
import Derived.LoopIn
import Derived.ScopeJumps
import Derived.Lib.OthersKept
set_option linter.unusedVariables false
namespace Nun
open Go Go.RowKit
section
variable {F : Fence} {n : Nat} {P : Program} {b : Frame} {a : Act} {k : List Item} {cs : List Frame} {w : World} {Q : Exit → Act → World → Prop}
theorem stepR_scope {c : Code} : step P (lone (b.atR a (.code (.scope c) :: k)) cs w) = .next (lone (b.atR a (.code c :: .inScope c :: k)) cs w) :=
  step_lone_go (by simp [stepG, stepG.exec, Frame.atR])
theorem stepR_inScope {c : Code} : step P (lone (b.atR a (.inScope c :: k)) cs w) = .next (lone (b.atR a k) cs w) :=
  step_lone_go (by simp [stepG, stepG.exec, Frame.atR])
/-- A scope in which at most one jump is taken, to label l: what holds at the jump is J, and from the label on no jump is taken. -/
theorem wpIn_scope_once {c rest : Code} (l : Nat) (J : Act → World → Prop) (hf : findLabel c l = some rest)
    (hq : ∀ l a w, ¬ Q (.goto l) a w)
    (first : c.wpIn F n P (Exit.jump l J Q) a w) (pass : ∀ a w, J a w → rest.wpIn F n P Q a w) : (Code.scope c).wpIn F n P Q a w := by
  intro b k cs hro hb hr
  have h0 : (lone (b.atR a (.code (.scope c) :: k)) cs w).fenced P F := fenced_calm hb hr rfl
  have hg : gotoIn l (.inScope c :: k) = some (.code rest :: .inScope c :: k) := by simp [gotoIn, hf]
  have out : ∀ (m : Machine) (e : Exit) (a₁ : Act) (w₁ : World), Q e a₁ w₁ → ArrivesIn (Machine.fenced P F) P m b (.inScope c :: k) cs e a₁ w₁ → ArrivesIn (Machine.fenced P F) P m b k cs e a₁ w₁ := by
    intro m e a₁ w₁ hq₁ harr
    cases e with
    | normal => exact StepsIn.trans harr (.one (fenced_calm hb hr rfl) stepR_inScope)
    | exit id => exact ⟨fun k' hk => harr.1 k' (by simp [exitTo, hk]), fun hr' hk => harr.2 hr' (by simp [exitTo, hk])⟩
    | goto l' => exact (hq _ _ _ hq₁).elim
    | ret => exact harr
    | panic ch => exact harr
    | outgrown => exact harr
  obtain ⟨e, a₁, w₁, hq1, harr⟩ := first b (.inScope c :: k) cs hro hb hr
  by_cases he : ∃ l', e = .goto l'
  · obtain ⟨l', rfl⟩ := he
    obtain ⟨rfl, hJ⟩ := hq1
    obtain ⟨e₂, a₂, w₂, hq₂, harr₂⟩ := pass a₁ w₁ hJ b (.inScope c :: k) cs hro hb hr
    exact ⟨e₂, a₂, w₂, hq₂, .of_steps (.head h0 stepR_scope (harr.1 _ hg)) (out _ _ _ _ hq₂ harr₂)⟩
  · have hq' : Q e a₁ w₁ := by cases e <;> first | exact hq1 | exact (he ⟨_, rfl⟩).elim
    exact ⟨e, a₁, w₁, hq', .of_steps (.one h0 stepR_scope) (out _ _ _ _ hq' harr)⟩
end
/-- What keeps every old block keeps the others. -/
theorem keeps_below {w w' : World} (h : Below w.heap.size w w') : KeepsOthers w w' := by
  refine ⟨h.size, fun k o hk hc => ?_⟩
  exact (h.block k (Array.getElem?_eq_some_iff.1 hk).1).trans hk
theorem keeps_kept {e b : Nat} {w w' : World} (hs : w.heap.size ≤ w'.heap.size) (h : Lib.OthersKept e (some b) w w') (hb : ∃ o : Obj, w.heap[b]? = some o ∧ o.isCells = true) : KeepsOthers w w' := by
  refine ⟨hs, fun k o hk hc => ?_⟩
  refine h k o hk ?_ ?_
  · intro hkb
    obtain ⟨o', ho', hc'⟩ := hb
    cases hkb
    rw [hk] at ho'; cases ho'; rw [hc] at hc'; cases hc'
  · intro c fz ho
    subst ho; cases hc
/-- One block is kept: what an iterator that reads one box asks of a round. -/
def KeepsAt (b : Nat) (W W' : World) : Prop := W'.heap[b]? = W.heap[b]?
theorem keepsAt_t {b : Nat} {A B C : World} (h : KeepsAt b A B) (k : KeepsAt b B C) : KeepsAt b A C := Eq.trans k h
theorem keepsAt_b {b : Nat} {w : World} (hb : b < w.heap.size) (W : World) (l : Nat) (o o' : Obj) (hl : w.heap.size ≤ l) (h : W.heap[l]? = some o) (_ : o.isCells = false) (_ : o.isWalk = false) : KeepsAt b W (W.putObj l o') :=
  World.putObj_heap_other (by omega)
theorem abides_below {β : Type} {B : Nat} {J : β → World → Prop} (h : AbidesFrom B J) {s : β} {W W' : World} (hJ : J s W) (k : Below W.heap.size W W') : J s W' :=
  h s W W' none hJ ⟨k.os, k.tape, k.output, k.size, fun i hi _ => k.block i hi⟩ (fun r e => by cases e)
theorem keepsAt_below {b : Nat} {W W' : World} (hb : b < W.heap.size) (k : Below W.heap.size W W') : KeepsAt b W W' := k.block b hb
end Nun
