/- A program's functions, evaluated on plain values (second part). -/
import Derived.Test.YtdfflbpifpoogaaDoorEva
import Derived.Orders
import Derived.ReadAgain
import Derived.ChangeSame
import Derived.ChangeReads
import Derived.DataReads
import Derived.WideShapes
set_option linter.unusedVariables false
set_option linter.unusedSimpArgs false
namespace Nun
open Go Go.RowKit
/-- What holds of blocks that nobody here writes. -/
structure Glob where
  D : Nat → Prop
  G : World → Prop
  lt : ∀ w, G w → ∀ g, D g → g < w.heap.size
  keep : ∀ w w', G w → (∀ g, D g → w'.heap[g]? = w.heap[g]?) → G w'
def act0 : Act := ⟨#[], []⟩
/-- The boxes, and their cells that may be appended to, as a frame without slots. -/
def boxSt (bx : Boxes) (oc : List Loc) : St := ⟨[], oc, [], bx⟩
/-- The blocks that a call may change. -/
def MayOf (w : World) (β : List Nat) (oc : List Loc) (g : Nat) : Prop := g ∈ β ∨ ∃ L ∈ oc, ∃ v, valAt act0 w β L = some v ∧ v.ownBlock = some g
structure Pre (Γ : Glob) (w : World) (Fr : Nat → Nat) (β : List Nat) (args : List PV) (vs : List Value) (bx : Boxes) (oc : List Loc) : Prop where
  g : Γ.G w
  args : Rds w Fr β args vs
  rel : Rel w.heap.size (MayOf w β oc) w Fr 0 (boxSt bx oc) act0 w Fr β
  cells : ∀ L ∈ oc, isCell L = true
  dis : ∀ g, Γ.D g → ¬ MayOf w β oc g
/-- What a call leaves. -/
structure Post (w : World) (Fr : Nat → Nat) (β : List Nat) (oc : List Loc) (vs' : List PV) (os : Bool) (bx' : Boxes) (oc' : List Loc) (v : Value) (w' : World) (Fr' : Nat → Nat) (β' : List Nat) : Prop where
  rd : Rd w' Fr' β' (tupOf vs') v
  rel : Rel w.heap.size (MayOf w β oc) w Fr 0 (boxSt bx' oc') act0 w' Fr' β'
  le : Le w Fr β w' Fr' β'
  cells : ∀ L ∈ oc', isCell L = true
  own : os = true → OwnV w' Fr' (tupOf vs') v ∧ ∀ g, v.ownBlock = some g → (w.heap.size ≤ g ∨ MayOf w β oc g) ∧ g ∉ β' ∧ ∀ L ∈ oc', ∀ u, valAt act0 w' β' L = some u → u.ownBlock ≠ some g
def entersB (P : Program) (f : FuncId) : Bool := match P.funcs[f]? with
  | some fn => fn.name != "runtime.NumGoroutine" && fn.body.isSome
  | none => false
def CallOk (P : Program) (Γ : Glob) (cf : Callee) : Prop := ∀ f args bx oc vs' os bx' oc', cf f args bx oc = some (vs', os, bx', oc') → entersB P f = true ∧ ∀ w Fr β vs, Pre Γ w Fr β args vs bx oc →
  Calls P f vs.toArray w fun e w' => ∃ v Fr' β', e = .returned v ∧ Post w Fr β oc vs' os bx' oc' v w' Fr' β'
section
variable {P : Program} {w w' : World} {Fr Fr' : Nat → Nat} {β β' : List Nat} {base nt : Nat} {M : Nat → Prop} {w0 : World} {F0 : Nat → Nat} {st st' : St} {a a' : Act} {cf : Callee}
mutual
theorem noPtr_rd : ∀ (p : PV) (v : Value), p.noPtr = true → Rd w Fr β p v → Rd w Fr β' p v
  | .unk, _, h, _ => by cases h
  | .flat u, v, _, k => by simpa [Rd] using k
  | .slc n cs, v, h, k => by
    simp only [Rd] at k ⊢
    obtain ⟨b, cap, h1, h2, h3⟩ := k
    refine ⟨b, cap, h1, h2, h3.imp id ?_⟩
    rintro ⟨g, o, vs, ha, hr, hs, ho⟩
    exact ⟨g, o, vs, ha, hr, noPtrs_rds cs vs h hs, ho⟩
  | .agg cs, v, h, k => by
    simp only [Rd] at k ⊢
    obtain ⟨vs, h1, hs, ho⟩ := k
    exact ⟨vs, h1, noPtrs_rds cs vs h hs, ho⟩
  | .tup cs, v, h, k => by
    simp only [Rd] at k ⊢
    obtain ⟨vs, h1, hs⟩ := k
    exact ⟨vs, h1, noPtrs_rds cs vs h hs⟩
  | .ptr b o, v, h, k => by cases h
  | .elt cs, v, h, k => by
    simp only [Rd] at k ⊢
    obtain ⟨g, o, vs, h1, hr, hs, ho⟩ := k
    exact ⟨g, o, vs, h1, hr, noPtrs_rds cs vs h hs, ho⟩
  | .clo f cs, v, h, k => by cases h
theorem noPtrs_rds : ∀ (ps : List PV) (vs : List Value), noPtrs ps = true → Rds w Fr β ps vs → Rds w Fr β' ps vs
  | [], vs, _, k => by simpa [Rds] using k
  | p :: ps, vs, h, k => by
    simp only [noPtrs, Bool.and_eq_true] at h
    simp only [Rds] at k ⊢
    obtain ⟨v, r, h1, h2, h3⟩ := k
    exact ⟨v, r, h1, noPtr_rd p v h.1 h2, noPtrs_rds ps r h.2 h3⟩
end
theorem tupOf_noPtr : ∀ (vs : List PV), noPtrs vs = true → (tupOf vs).noPtr = true
  | [], _ => rfl
  | [v], h => by simpa [noPtrs, tupOf] using h
  | v :: u :: r, h => h
theorem rel_empty (w : World) (Fr : Nat → Nat) : Rel w.heap.size (MayOf w [] []) w Fr 0 (boxSt [] []) act0 w Fr [] :=
  ⟨fun i => by simp [boxSt, look, Rd], rfl, rfl, ⟨rfl, fun b cs h => by simp [boxSt] at h⟩, List.nodup_nil, (fun L h => by cases h), (fun L h => by cases h), (fun L h => by cases h), (fun p h => by cases h), (fun g h => by
    rcases h with h | ⟨L, h, _⟩
    · cases h
    · cases h), fun _ _ _ => ⟨rfl, rfl⟩, Nat.le_refl _, rfl, rfl, rfl⟩
theorem may_empty {g : Nat} : ¬ MayOf w [] [] g := by
  rintro (h | ⟨L, h, _⟩) <;> cases h
theorem valAt_cell {L : Loc} (h : isCell L = true) : valAt a w β L = valAt act0 w β L := by
  cases L with
  | slot i => cases h
  | cell b j => rfl
theorem pvAt_cell {L : Loc} (h : isCell L = true) {oc : List Loc} : pvAt st L = pvAt (boxSt st.bx oc) L := by
  cases L with
  | slot i => cases h
  | cell b j => rfl
/-- The boxes of a frame, as its callees see them. -/
theorem Rel.boxes (R : Rel base M w0 F0 nt st a w Fr β) : Rel w.heap.size (MayOf w β (st.ow.filter isCell)) w Fr 0 (boxSt st.bx (st.ow.filter isCell)) act0 w Fr β := by
  have mem : ∀ L, L ∈ st.ow.filter isCell → L ∈ st.ow ∧ isCell L = true := fun L h => by simpa using h
  refine ⟨fun i => by simp [boxSt, look, Rd], rfl, rfl, R.bx, R.nd, fun L hL => ?_, fun L hL L' hL' hne v v' g hv hv' => ?_, fun L hL v g hv => ?_, (fun p h => by cases h), fun g hg => .inr ?_, fun _ _ _ => ⟨rfl, rfl⟩, Nat.le_refl _, rfl, rfl, rfl⟩
  · obtain ⟨h1, h2⟩ := mem L hL
    obtain ⟨v, p, k1, k2, k3⟩ := R.own L h1
    exact ⟨v, p, by rw [← valAt_cell (a := a) h2]; exact k1, by rw [← pvAt_cell h2]; exact k2, k3⟩
  · obtain ⟨h1, h2⟩ := mem L hL
    obtain ⟨h1', h2'⟩ := mem L' hL'
    rw [← valAt_cell (a := a) h2] at hv
    rw [← valAt_cell (a := a) h2'] at hv'
    exact R.sep L h1 L' h1' hne v v' g hv hv'
  · obtain ⟨h1, h2⟩ := mem L hL
    rw [← valAt_cell (a := a) h2] at hv
    exact R.out L h1 v g hv
  · exact hg
theorem enter_run {f : FuncId} (hf : entersB P f = true) {args : Array Value} : (callFunc f args).run P w = .ok (.enter f args) w := by
  unfold entersB at hf
  split at hf
  · rename_i fn hfn
    simp only [Bool.and_eq_true, bne_iff_ne, ne_eq] at hf
    obtain ⟨h1, h2⟩ := hf
    have h3 : fn.body.isNone = false := by cases h : fn.body <;> simp_all
    simp only [callFunc, Sem.run_bind]
    show (Result.andThen (.ok P w) _ : Result Next) = _
    simp only [Result.andThen_ok, hfn, h3]
    rw [if_neg (by simpa using h1)]
    rfl
  · cases hf
theorem Rel.addOwn (R : Rel base M w0 F0 nt st a w Fr β) {d : Nat} {p : PV} {v : Value} (hv : a.tmps.getD d undef = v) (hp : look st.sl d = p) (ho : OwnV w Fr p v)
    (hb : ∀ g, v.ownBlock = some g → (base ≤ g ∨ M g) ∧ g ∉ β ∧ ∀ L ∈ st.ow, L ≠ .slot d → ∀ u, valAt a w β L = some u → u.ownBlock ≠ some g) : Rel base M w0 F0 nt { st with ow := .slot d :: st.ow } a w Fr β := by
  have hvd : valAt a w β (.slot d) = some v := by simp only [valAt, hv]
  have hpv : ∀ L, pvAt { st with ow := .slot d :: st.ow } L = pvAt st L := fun L => pvAt_of_sl rfl rfl
  refine ⟨R.sl, R.nt, R.df, R.bx, R.nd, fun L hL => ?_, fun L hL L' hL' hne u u' g hu hu' hg hg' => ?_, fun L hL u g hu hg => ?_, R.al, fun g hg => ?_, R.old, R.ge, R.os, R.tape, R.output⟩
  · rcases List.mem_cons.1 hL with rfl | hL
    · exact ⟨v, p, hvd, by rw [hpv]; simp only [pvAt, hp], ho⟩
    · obtain ⟨u, q, k1, k2, k3⟩ := R.own L hL
      exact ⟨u, q, k1, by rw [hpv]; exact k2, k3⟩
  · by_cases e : L = .slot d
    · subst e
      rw [hvd] at hu; cases hu
      rcases List.mem_cons.1 hL' with h | h
      · exact hne h.symm
      · exact (hb g hg).2.2 L' h (Ne.symm hne) u' hu' hg'
    · have hL2 := (List.mem_cons.1 hL).resolve_left e
      by_cases e' : L' = .slot d
      · subst e'
        rw [hvd] at hu'; cases hu'
        exact (hb g hg').2.2 L hL2 e u hu hg
      · exact R.sep L hL2 L' ((List.mem_cons.1 hL').resolve_left e') hne u u' g hu hu' hg hg'
  · by_cases e : L = .slot d
    · subst e
      rw [hvd] at hu; cases hu
      exact (hb g hg).2.1
    · exact R.out L ((List.mem_cons.1 hL).resolve_left e) u g hu hg
  · rcases hg with hg | ⟨L, hL, u, hu, hg⟩
    · exact R.may g (.inl hg)
    · by_cases e : L = .slot d
      · subst e
        rw [hvd] at hu; cases hu
        exact (hb g hg).1
      · exact R.may g (.inr ⟨L, (List.mem_cons.1 hL).resolve_left e, u, hu, hg⟩)
/-- A call, its callee known. -/
theorem call_st {Γ : Glob} (hcf : CallOk P Γ cf) {S : S0} {dst : Option Nat} {f : FuncId} {args : List PV} {vs : List Value} (hs : callSt cf st dst f args = some st') (hd : ∀ d, dst = some d → d < S.nt)
    (R : Rel S.base S.M S.w0 S.F0 S.nt st a w Fr β) (hl : Le S.sw S.sF S.sβ w Fr β) (hargs : Rds w Fr β args vs) (hg : Γ.G w) (hdis : ∀ g, Γ.D g → g < S.base ∧ ¬ S.M g) {K : Act → World → Prop} (hK : ∀ a' w', Rl S st' a' w' → K a' w') :
    entersB P f = true ∧ Calls P f vs.toArray w fun e w' => ∃ v, e = .returned v ∧ K (a.put dst v) w' := by
  unfold callSt at hs
  split at hs
  · rename_i hnp
    obtain ⟨⟨vs', os, bx', oc'⟩, hc, hs⟩ := Option.bind_eq_some_iff.1 hs
    dsimp only at hs
    split at hs
    case isFalse => cases hs
    rename_i hnp'
    obtain ⟨he, hcall⟩ := hcf f args [] [] vs' os bx' oc' hc
    refine ⟨he, (hcall w Fr [] vs ⟨hg, noPtrs_rds args vs hnp hargs, rel_empty w Fr, (fun L h => by cases h), fun g _ => may_empty⟩).mono fun e w' h => ?_⟩
    obtain ⟨v, Fr', β', rfl, Q⟩ := h
    have hb : Below w.heap.size w w' := ⟨Q.rel.os, Q.rel.tape, Q.rel.output, Q.rel.ge, fun k hk => (Q.rel.old k hk may_empty).1⟩
    have hf : ∀ g, g < w.heap.size → Fr' g = Fr g := fun g hg => (Q.rel.old g hg may_empty).2
    have hrd : Rd w' Fr' β (tupOf vs') v := noPtr_rd _ _ (tupOf_noPtr vs' hnp') Q.rd
    obtain ⟨R', hl'⟩ := R.grow hb hf
    refine ⟨v, rfl, ?_⟩
    cases dst with
    | none => cases hs; exact hK _ _ ⟨Fr', β, R', hl.trans hl'⟩
    | some d =>
      dsimp only at hs
      split at hs
      · rename_i hos
        cases hs
        obtain ⟨k1, k2⟩ := Q.own hos
        exact hK _ _ ⟨Fr', β, R.putOwn hb hf (hd d rfl) hrd k1 (fun g hg => ((k2 g hg).1).resolve_right may_empty), hl.trans hl'⟩
      · cases hs
        exact hK _ _ ⟨Fr', β, R'.put (hd d rfl) hrd, hl.trans hl'⟩
  · rename_i hnp
    obtain ⟨⟨vs', os, bx', oc'⟩, hc, hs⟩ := Option.map_eq_some_iff.1 hs
    dsimp only at hs
    obtain ⟨he, hcall⟩ := hcf f args st.bx (st.ow.filter isCell) vs' os bx' oc' hc
    have hmem : ∀ L, L ∈ st.ow.filter isCell → L ∈ st.ow ∧ isCell L = true := fun L h => by simpa using h
    have hmay : ∀ g, MayOf w β (st.ow.filter isCell) g → S.base ≤ g ∨ S.M g := fun g hg => R.may g (hg.imp id fun ⟨L, h1, v, h2, h3⟩ => ⟨L, (hmem L h1).1, v, by rw [valAt_cell (hmem L h1).2]; exact h2, h3⟩)
    refine ⟨he, (hcall w Fr β vs ⟨hg, hargs, R.boxes, fun L h => (hmem L h).2, fun g hD hm => ?_⟩).mono fun e w' h => ?_⟩
    · obtain ⟨h1, h2⟩ := hdis g hD
      rcases hmay g hm with h | h
      · omega
      · exact h2 h
    obtain ⟨v, Fr', β', rfl, Q⟩ := h
    refine ⟨v, rfl, ?_⟩
    have hslot : ∀ L ∈ st.ow, isCell L = false → ∀ u g, valAt a w β L = some u → u.ownBlock = some g → g < w.heap.size ∧ ¬ MayOf w β (st.ow.filter isCell) g := fun L hL hc u g hu hg => by
      obtain ⟨u', p, k1, k2, k3⟩ := R.own L hL
      rw [hu] at k1; cases k1
      refine ⟨k3.lt hg, ?_⟩
      rintro (h | ⟨L', h1, u', h2, h3⟩)
      · exact R.out L hL u g hu hg h
      · obtain ⟨m1, m2⟩ := hmem L' h1
        rw [← valAt_cell (a := a) m2] at h2
        exact R.sep L hL L' m1 (fun e => by rw [e, m2] at hc; cases hc) u u' g hu h2 hg h3
    have hsl : ∀ L, isCell L = false → valAt a w' β' L = valAt a w β L := fun L hc => by
      cases L with
      | slot i => rfl
      | cell b j => cases hc
    obtain ⟨stm, hstm⟩ : ∃ stm : St, stm = { st with bx := bx', ow := oc' ++ st.ow.filter (fun L => !isCell L), al := st.al.filter fun p => !isCell p.2 } := ⟨_, rfl⟩
    have hmow : ∀ L, L ∈ stm.ow → (L ∈ oc' ∧ isCell L = true) ∨ (L ∈ st.ow ∧ isCell L = false) := fun L hL => by
      subst hstm
      rcases List.mem_append.1 hL with h | h
      · exact .inl ⟨h, Q.cells L h⟩
      · exact .inr (by simpa using h)
    have hcw : ∀ L u, isCell L = true → valAt a w' β' L = some u → valAt act0 w' β' L = some u := fun L u hc h => by rw [← valAt_cell (a := a) hc]; exact h
    have Rm : Rel S.base S.M S.w0 S.F0 S.nt stm a w' Fr' β' := by
      refine ⟨fun i => by subst hstm; exact (R.sl i).mono Q.le, R.nt, R.df, by subst hstm; exact Q.rel.bx, Q.rel.nd, fun L hL => ?_, fun L hL L' hL' hne u u' g hu hu' hg hg' => ?_, fun L hL u g hu hg => ?_, fun q hq => ?_, fun g hg => ?_, fun b hb hM => ?_, Nat.le_trans R.ge Q.rel.ge, Q.rel.os.trans R.os, Q.rel.tape.trans R.tape, Q.rel.output.trans R.output⟩
      · rcases hmow L hL with ⟨h1, h2⟩ | ⟨h1, h2⟩
        · obtain ⟨u, p, k1, k2, k3⟩ := Q.rel.own L h1
          refine ⟨u, p, by rw [valAt_cell h2]; exact k1, ?_, k3⟩
          subst hstm
          rw [pvAt_cell h2 (oc := oc')]; exact k2
        · obtain ⟨u, p, k1, k2, k3⟩ := R.own L h1
          refine ⟨u, p, by rw [hsl L h2]; exact k1, ?_, k3.kept fun g hg => ?_⟩
          · subst hstm
            cases L with
            | slot i => exact k2
            | cell b j => cases h2
          · obtain ⟨m1, m2⟩ := hslot L h1 h2 u g k1 hg
            exact Q.rel.old g m1 m2
      · rcases hmow L hL with ⟨h1, h2⟩ | ⟨h1, h2⟩
        · rcases hmow L' hL' with ⟨h1', h2'⟩ | ⟨h1', h2'⟩
          · exact Q.rel.sep L h1 L' h1' hne u u' g (hcw L u h2 hu) (hcw L' u' h2' hu') hg hg'
          · rw [hsl L' h2'] at hu'
            obtain ⟨m1, m2⟩ := hslot L' h1' h2' u' g hu' hg'
            rcases Q.rel.may g (.inr ⟨L, h1, u, hcw L u h2 hu, hg⟩) with h | h
            · omega
            · exact m2 h
        · rw [hsl L h2] at hu
          obtain ⟨m1, m2⟩ := hslot L h1 h2 u g hu hg
          rcases hmow L' hL' with ⟨h1', h2'⟩ | ⟨h1', h2'⟩
          · rcases Q.rel.may g (.inr ⟨L', h1', u', hcw L' u' h2' hu', hg'⟩) with h | h
            · omega
            · exact m2 h
          · rw [hsl L' h2'] at hu'
            exact R.sep L h1 L' h1' hne u u' g hu hu' hg hg'
      · rcases hmow L hL with ⟨h1, h2⟩ | ⟨h1, h2⟩
        · exact Q.rel.out L h1 u g (hcw L u h2 hu) hg
        · rw [hsl L h2] at hu
          obtain ⟨m1, m2⟩ := hslot L h1 h2 u g hu hg
          intro hm
          rcases Q.rel.may g (.inl hm) with h | h
          · omega
          · exact m2 h
      · have hq' : q ∈ st.al ∧ isCell q.2 = false := by subst hstm; simpa using hq
        rw [hsl _ hq'.2]; exact R.al q hq'.1
      · rcases hg with hg | ⟨L, hL, u, hu, hg⟩
        · rcases Q.rel.may g (.inl hg) with h | h
          · exact .inl (Nat.le_trans R.ge h)
          · exact hmay g h
        · rcases hmow L hL with ⟨h1, h2⟩ | ⟨h1, h2⟩
          · rcases Q.rel.may g (.inr ⟨L, h1, u, hcw L u h2 hu, hg⟩) with h | h
            · exact .inl (Nat.le_trans R.ge h)
            · exact hmay g h
          · rw [hsl L h2] at hu
            exact R.may g (.inr ⟨L, h1, u, hu, hg⟩)
      · obtain ⟨m1, m2⟩ := Q.rel.old b (Nat.lt_of_lt_of_le hb R.ge) fun h => by
          rcases hmay b h with h | h
          · omega
          · exact hM h
        obtain ⟨m3, m4⟩ := R.old b hb hM
        exact ⟨m1.trans m3, m2.trans m4⟩
    rw [← hstm] at hs
    cases dst with
    | none => cases hs; exact hK _ _ ⟨Fr', β', Rm, hl.trans Q.le⟩
    | some d =>
      dsimp only at hs
      have R2 := Rm.put (hd d rfl) Q.rd
      have hda : d < a.tmps.size := by rw [R.nt]; exact hd d rfl
      split at hs
      · rename_i hos
        cases hs
        obtain ⟨k1, k2⟩ := Q.own hos
        refine hK _ _ ⟨Fr', β', R2.addOwn (d := d) (by rw [getD_put a d v d hda, if_pos rfl]) (by simp [St.put, look_cons]) k1 fun g hg => ?_, hl.trans Q.le⟩
        obtain ⟨m1, m2, m3⟩ := k2 g hg
        refine ⟨m1.elim (fun h => .inl (Nat.le_trans R.ge h)) (fun h => hmay g h), m2, fun L hL hne u hu => ?_⟩
        obtain ⟨n1, n2⟩ := mem_dropSlot.1 hL
        rw [valAt_put hda n2] at hu
        rcases hmow L n1 with ⟨h1, h2⟩ | ⟨h1, h2⟩
        · exact m3 L h1 u (hcw L u h2 hu)
        · intro e
          rw [hsl L h2] at hu
          obtain ⟨q1, q2⟩ := hslot L h1 h2 u g hu e
          rcases m1 with h | h
          · omega
          · exact q2 h
      · cases hs
        exact hK _ _ ⟨Fr', β', R2, hl.trans Q.le⟩
end
end Nun

/- Operations one after the other. -/
namespace Nun
open Go Go.RowKit
def coAli (P : Program) (ali : List Nat) (o : Oper) : Option COp := match o.dst, o.op with
  | some d, .move (.tmp s) => if d ∈ ali then some (.mvA s) else none
  | some d, .load t x => if d ∈ ali ∧ isAggT P t = some false ∧ szOf P t = some 1 then (coX x).map .loadA else none
  | _, _ => none
def coCall (P : Program) : Op → Option COp
  | .call { callee := .value (.func f), args, .. } => (coXs args).map fun xs => .call f xs
  | .call { callee := .value (.tmp t), args, .. } => (coXs args).map fun xs => .callv (.t t) xs
  | _ => none
def coOp (P : Program) (ali : List Nat) (o : Oper) : Option COp := match coAli P ali o with
  | some c => some c
  | none => match coSimple P o.op with
    | some c => some c
    | none => match coMem P o.op with
      | some c => some c
      | none => coCall P o.op
def coG (ops : Array Oper) : Option (Nat × Bool) → Option (Option (Nat × Bool))
  | none => some none
  | some (j, want) => ((ops[j]?).bind (·.dst)).map fun s => some (s, want)
/-- One operation, of a frame of nt slots. -/
def coOper (P : Program) (nt : Nat) (ops : Array Oper) (ali : List Nat) (o : Oper) : Option COper :=
  if o.dst.all (· < nt) then (coOp P ali o).bind fun c => (coG ops o.guard).map fun g => ⟨o.dst, g, c⟩ else none
section
variable {P : Program} {w w' : World} {Fr Fr' : Nat → Nat} {β β' : List Nat} {base nt : Nat} {M : Nat → Prop} {w0 : World} {F0 : Nat → Nat} {st st' : St} {a a' : Act} {cf : Callee} {Γ : Glob} {S : S0}
/-- The globals are none of the blocks that may change. -/
structure Good (Γ : Glob) (S : S0) : Prop where
  g : Γ.G S.w0
  dis : ∀ g, Γ.D g → g < S.base ∧ ¬ S.M g
theorem Good.at (h : Good Γ S) (R : Rel S.base S.M S.w0 S.F0 S.nt st a w Fr β) : Γ.G w := Γ.keep _ _ h.g fun g hg => (R.old g (h.dis g hg).1 (h.dis g hg).2).1
theorem loadA_step {o : Oper} {t : TypeId} {x : Operand} {y : X} (ho : o.op = .load t x) (hg : isAggT P t = some false) (hn : szOf P t = some 1) (hy : coX x = some y) (hs : stepOp cf st o.dst (.loadA y) = some st') (hd : ∀ d, o.dst = some d → d < S.nt) (hr : Rl S st a w) {K : Act → World → Prop} {Q : Exit → Act → World → Prop}
    (hK : ∀ a' w', Rl S st' a' w' → K a' w') : o.wp P a w K Q := by
  obtain ⟨Fr, β, R, hl⟩ := hr
  simp only [stepOp] at hs
  obtain ⟨d, hdst, hs2⟩ := Option.bind_eq_some_iff.1 hs
  clear hs
  have hx := coX_rd R.sl hy
  split at hs2
  · rename_i b off e1
    rw [e1] at hx
    simp only [Rd] at hx
    obtain ⟨gb, hgb, hx⟩ := hx
    obtain ⟨p, hp, rfl⟩ := Option.map_eq_some_iff.1 hs2
    obtain ⟨cs, hcs, hp⟩ := Option.bind_eq_some_iff.1 hp
    obtain ⟨g', vs, e, b1, b2, b3, b4, b5⟩ := R.bx.2 b cs hcs
    rw [hgb] at b1; cases b1
    obtain ⟨v, k1, k2⟩ := b3.get off p hp
    have hcell : w.cell? ⟨gb, off, none⟩ = some v := by
      rw [cell_of_row _ _ _ _ _ _ b2]; simpa using k1
    have hrun : (execOp a.eval o).run P w = .ok (.value v) w := by
      have h9 := run_loadVar (vs := [v]) hg hn rfl (w := w) (b := gb) (o := off) (fun j u hj => by
        match j, hj with
        | 0, hj => simp at hj; subst hj; exact hcell) (.inr rfl)
      unfold execOp
      rw [ho]
      show (do pure (Next.value (← Instr.loadAt t (a.eval x))) : Sem Next).run P w = _
      simp only [Instr.loadAt, Sem.run_bind, hx, Instr.sureAddr, Sem.run_pure, Result.andThen_ok, h9]
      rfl
    refine upon_val hrun ?_
    rw [hdst]
    refine hK _ _ ⟨Fr, β, R.putAl (hd d hdst) k2 rfl ?_, hl⟩
    simp only [valAt, hgb, Option.bind_some]; exact hcell
  · cases hs2
theorem mvA_step {o : Oper} {s : Nat} (ho : o.op = .move (.tmp s)) (hs : stepOp cf st o.dst (.mvA s) = some st') (hd : ∀ d, o.dst = some d → d < S.nt) (hr : Rl S st a w) {K : Act → World → Prop} {Q : Exit → Act → World → Prop}
    (hK : ∀ a' w', Rl S st' a' w' → K a' w') : o.wp P a w K Q := by
  obtain ⟨Fr, β, R, hl⟩ := hr
  simp only [stepOp] at hs
  obtain ⟨d, hdst, hs2⟩ := Option.bind_eq_some_iff.1 hs
  clear hs
  split at hs2
  · cases hs2
  · rename_i hsd
    cases hs2
    have hrun : (execOp a.eval o).run P w = .ok (.value (a.tmps.getD s undef)) w := by
      unfold execOp; rw [ho]; rfl
    refine upon_val hrun ?_
    rw [hdst]
    exact hK _ _ ⟨Fr, β, R.putAl (hd d hdst) (R.sl s) (by simp [ment]; exact fun e => hsd e) rfl, hl⟩
theorem coXs_arr {a : Act} {sl : List (Nat × PV)} (h : ∀ i, Rd w Fr β (look sl i) (a.tmps.getD i undef)) {l : Array Operand} {ys : List X} (hx : coXs l = some ys) : Rds w Fr β (ys.map (·.ev sl)) (l.map a.eval).toList := by
  rw [Array.toList_map]; exact coXs_rd h hx
theorem call_step (hcf : CallOk P Γ cf) (hS : Good Γ S) {o : Oper} {c : COp} (hc : coCall P o.op = some c) (hs : stepOp cf st o.dst c = some st') (hd : ∀ d, o.dst = some d → d < S.nt) (hr : Rl S st a w) {K : Act → World → Prop} {Q : Exit → Act → World → Prop}
    (hK : ∀ a' w', Rl S st' a' w' → K a' w') : o.wp P a w K Q := by
  obtain ⟨Fr, β, R, hl⟩ := hr
  obtain ⟨dst, op, ty, pos, after, guard⟩ := o
  dsimp only at hc hs hd
  have fin : ∀ (f : FuncId) (args : List PV) (vs : List Value), callSt cf st dst f args = some st' → Rds w Fr β args vs → (execOp a.eval ⟨dst, op, ty, pos, after, guard⟩).run P w = (callFunc f vs.toArray).run P w → Oper.wp P ⟨dst, op, ty, pos, after, guard⟩ a w K Q := fun f args vs h1 h2 h3 => by
    obtain ⟨he, hcall⟩ := call_st hcf h1 hd R hl h2 (hS.at R) hS.dis hK
    unfold Oper.wp
    rw [h3, enter_run he]
    exact hcall.mono fun e w' h => by
      obtain ⟨v, rfl, h⟩ := h
      exact h
  cases op with
  | call cl =>
    obtain ⟨callee, args, ats⟩ := cl
    cases callee with
    | invoke r m => cases hc
    | builtin b => cases hc
    | value f =>
      cases f with
      | const v => cases hc
      | global g => cases hc
      | func f =>
        obtain ⟨xs, hx, rfl⟩ := Option.map_eq_some_iff.1 hc
        refine fin f _ (args.map a.eval).toList hs (coXs_arr R.sl hx) ?_
        show (do let d ← resolve a.eval ⟨.value (.func f), args, ats⟩ ty; invoke d.target d.args : Sem Next).run P w = _
        simp only [resolve, Deferred.ofValue, Act.eval, Sem.run_bind, Sem.run_pure, Result.andThen_ok, invoke]
        congr 2
        apply Array.ext'; simp
      | tmp t =>
        obtain ⟨xs, hx, rfl⟩ := Option.map_eq_some_iff.1 hc
        simp only [stepOp] at hs
        split at hs
        · rename_i f caps e1
          have hf := R.sl t
          have e1' : look st.sl t = .clo f caps := e1
          rw [e1'] at hf
          simp only [Rd] at hf
          obtain ⟨cvs, hfv, hcr⟩ := hf
          refine fin f _ ((args.map a.eval).toList ++ cvs) hs ((coXs_arr R.sl hx).append hcr) ?_
          show (do let d ← resolve a.eval ⟨.value (.tmp t), args, ats⟩ ty; invoke d.target d.args : Sem Next).run P w = _
          have : a.eval (.tmp t) = .func (.func f) #[] cvs.toArray := hfv
          simp only [resolve, this, Deferred.ofValue, Sem.run_bind, Sem.run_pure, Result.andThen_ok, invoke]
          congr 2
          apply Array.ext'; simp
        · cases hs
  | _ => cases hc
theorem op_step (hcf : CallOk P Γ cf) (hS : Good Γ S) {ali : List Nat} {o : Oper} {c : COp} (hc : coOp P ali o = some c) (hs : stepOp cf st o.dst c = some st') (hd : ∀ d, o.dst = some d → d < S.nt) (hr : Rl S st a w) {K : Act → World → Prop} {Q : Exit → Act → World → Prop}
    (hK : ∀ a' w', Rl S st' a' w' → K a' w') : o.wp P a w K Q := by
  unfold coOp at hc
  split at hc
  · rename_i c' h1
    cases hc
    unfold coAli at h1
    split at h1
    · rename_i d s e1 e2
      split at h1
      · cases h1; exact mvA_step e2 hs hd hr hK
      · cases h1
    · rename_i d t x e1 e2
      split at h1
      · rename_i hcond
        obtain ⟨y, hy, rfl⟩ := Option.map_eq_some_iff.1 h1
        exact loadA_step e2 hcond.2.1 hcond.2.2 hy hs hd hr hK
      · cases h1
    · cases h1
  · split at hc
    · rename_i c' h1; cases hc; exact simple_step h1 hs hd hr hK
    · split at hc
      · rename_i c' h1; cases hc; exact mem_step h1 hs hd hr hK
      · exact call_step hcf hS hc hs hd hr hK
/-- The guard. -/
theorem guard_ok {ops : Array Oper} {o : Oper} {g : Option (Nat × Bool)} {b : Bool} (hg : coG ops o.guard = some g) (hb : guardOk st g = some b) (hr : Rl S st a w) : Region.wanted o (yielded ops a.tmps) = b := by
  obtain ⟨Fr, β, R, hl⟩ := hr
  unfold coG at hg
  unfold Region.wanted
  split at hg
  · rename_i e; cases hg; rw [e]; cases hb; rfl
  · rename_i j want e
    rw [e]
    obtain ⟨s, hs, rfl⟩ := Option.map_eq_some_iff.1 hg
    dsimp only
    have hx := R.sl s
    unfold guardOk at hb
    dsimp only at hb
    have hy : yielded ops a.tmps j = match a.tmps[s]? with | some (.bool b) => some b | _ => none := by
      unfold yielded; rw [hs]; rfl
    split at hb
    · rename_i t e1
      cases hb
      rw [e1] at hx
      obtain ⟨hx, _⟩ := rd_flat hx
      have : a.tmps[s]? = some (.bool t) := by
        rw [Array.getD_eq_getD_getElem?] at hx
        cases h : a.tmps[s]? with
        | none => rw [h] at hx; cases hx
        | some u => rw [h] at hx; simp at hx; rw [hx]
      rw [hy, this]
      cases t <;> cases want <;> rfl
    · rename_i e1
      cases hb
      rw [e1] at hx
      simp only [Rd, Rds] at hx
      obtain ⟨vs, hx, rfl⟩ := hx
      rw [hy]
      rw [Array.getD_eq_getD_getElem?] at hx
      cases h : a.tmps[s]? with
      | none => rfl
      | some u => rw [h] at hx; simp at hx; rw [hx]; rfl
    · cases hb
/-- One operation with its guard. -/
theorem oper_step (hcf : CallOk P Γ cf) (hS : Good Γ S) {ops : Array Oper} {ali : List Nat} {o : Oper} {c : COper} (hc : coOper P S.nt ops ali o = some c) (hs : stepG cf st c = some st') (hr : Rl S st a w) {K : Act → World → Prop} {Q : Exit → Act → World → Prop}
    (hK : ∀ a' w', Rl S st' a' w' → K a' w') : if Region.wanted o (yielded ops a.tmps) then o.wp P a w K Q ∨ (o.asks P a w ∧ LetsOut Q) else K (a.put o.dst undef) w := by
  unfold coOper at hc
  split at hc
  case isFalse => cases hc
  rename_i hd
  obtain ⟨cc, h1, hc⟩ := Option.bind_eq_some_iff.1 hc
  obtain ⟨g, h2, rfl⟩ := Option.map_eq_some_iff.1 hc
  unfold stepG at hs
  obtain ⟨b, hb, hs⟩ := Option.bind_eq_some_iff.1 hs
  rw [guard_ok h2 hb hr]
  have hd' : ∀ d, o.dst = some d → d < S.nt := fun d h => by rw [h] at hd; simpa using hd
  cases b with
  | true => exact .inl (op_step hcf hS h1 hs hd' hr hK)
  | false =>
    dsimp only at hs
    simp only [Bool.false_eq_true, if_false] at hs ⊢
    cases hs
    obtain ⟨Fr, β, R, hl⟩ := hr
    refine hK _ _ ?_
    cases hdst : o.dst with
    | none => exact ⟨Fr, β, R, hl⟩
    | some d => exact ⟨Fr, β, R.put (hd' d hdst) (by simp only [Rd, Rds]; exact ⟨[], rfl, rfl⟩), hl⟩
theorem seq_run (hcf : CallOk P Γ cf) (hS : Good Γ S) {ops : Array Oper} {ali : List Nat} {Q : Exit → Act → World → Prop} {rest : List Nat} : ∀ (l : List COper) (k : Nat) (st : St) (a : Act) (w : World),
    (∀ j c, l[j]? = some c → ∃ o, ops[k + j]? = some o ∧ coOper P S.nt ops ali o = some c) → evOps cf l st = some st' → Rl S st a w → (∀ a' w', Rl S st' a' w' → wpOps P ops Q rest a' w') → wpOps P ops Q (List.range' k l.length ++ rest) a w
  | [], k, st, a, w, _, h, hr, hK => by
    simp only [evOps, Option.some.injEq] at h; subst h
    exact hK a w hr
  | c :: l, k, st, a, w, hl, h, hr, hK => by
    simp only [evOps] at h
    obtain ⟨s1, h1, h2⟩ := Option.bind_eq_some_iff.1 h
    obtain ⟨o, ho, hco⟩ := hl 0 c rfl
    rw [Nat.add_zero] at ho
    rw [List.length_cons, List.range'_succ, List.cons_append]
    unfold wpOps
    simp only [ho]
    exact oper_step hcf hS hco h1 hr fun a' w' hr' => seq_run hcf hS l (k + 1) s1 a' w' (fun j c' hj => by
      have := hl (j + 1) c' (by simpa using hj)
      rwa [Nat.add_assoc, Nat.add_comm 1 j]) h2 hr' hK
end
end Nun

/- A statement whose order is open: a first part whose operations stand for themselves, in whatever order; then one after the other. -/
namespace Nun
open Go Go.RowKit
def COp.xs : COp → List X
  | .mv x | .asg x | .mvS x | .nilc x | .un _ x | .conv _ x | .b2s x | .box _ x | .load _ _ x | .loadA x | .fadr _ x | .fld _ _ _ x | .ext x _ | .len x | .lenS x => [x]
  | .mvA s => [.t s]
  | .pick c a b => [c, a, b]
  | .bin _ x y | .beq _ x y | .store _ x y | .iadr _ x y | .idx x y | .append _ x y | .mm _ x y => [x, y]
  | .alloc _ => []
  | .build _ ps | .mksl _ _ _ ps => ps.map (·.2.2)
  | .slice _ x lo hi | .sliceS x lo hi => x :: lo.toList ++ hi.toList
  | .call _ xs | .clos _ xs => xs
  | .callv g xs => g :: xs
def X.slots : X → List Nat
  | .t s => [s]
  | .c _ => []
def COper.reads (o : COper) : List Nat := o.op.xs.flatMap X.slots ++ (match o.g with | some (s, _) => [s] | none => [])
def preKind : COp → Bool
  | .asg _ | .alloc _ | .box .. | .store .. | .append .. => false
  | _ => true
theorem simpleV_congr {c : COp} {ρ ρ' : X → PV} (h : ∀ x ∈ c.xs, ρ x = ρ' x) : simpleV c ρ = simpleV c ρ' := by
  cases c
  case build zs ps =>
    have : (ps.map fun q => (q.1, q.2.1, ρ q.2.2)) = ps.map fun q => (q.1, q.2.1, ρ' q.2.2) := List.map_congr_left fun q hq => by
      rw [h q.2.2 (List.mem_map.2 ⟨q, hq, rfl⟩)]
    simp only [simpleV, this]
  case clos f xs =>
    have : xs.map ρ = xs.map ρ' := List.map_congr_left fun q hq => h q hq
    simp only [simpleV, this]
  case slice n x lo hi =>
    have h1 : ρ x = ρ' x := h x (by simp [COp.xs])
    have h2 : lo.map ρ = lo.map ρ' := by cases lo <;> simp; exact h _ (by simp [COp.xs])
    have h3 : hi.map ρ = hi.map ρ' := by cases hi <;> simp; exact h _ (by simp [COp.xs])
    simp only [simpleV, h1, h2, h3]
  case sliceS x lo hi =>
    have h1 : ρ x = ρ' x := h x (by simp [COp.xs])
    have h2 : lo.map ρ = lo.map ρ' := by cases lo <;> simp; exact h _ (by simp [COp.xs])
    have h3 : hi.map ρ = hi.map ρ' := by cases hi <;> simp; exact h _ (by simp [COp.xs])
    simp only [simpleV, h1, h2, h3]
  all_goals first
    | rfl
    | (rename_i x y z; have h1 := h x (by simp [COp.xs]); have h2 := h y (by simp [COp.xs]); have h3 := h z (by simp [COp.xs]); simp only [simpleV, h1, h2, h3]; done)
    | (rename_i x y; have h1 := h x (by simp [COp.xs]); have h2 := h y (by simp [COp.xs]); simp only [simpleV, h1, h2]; done)
    | (rename_i x; have h1 := h x (by simp [COp.xs]); simp only [simpleV, h1]; done)
    | (rename_i x _; have h1 := h x (by simp [COp.xs]); simp only [simpleV, h1]; done)
    | (rename_i g _ _ x; have h1 := h x (by simp [COp.xs]); cases g <;> simp only [simpleV, h1]; done)
    | skip
/-- What one operation of the first part leaves in its slot. -/
structure Eff where
  p : PV
  own : Bool
  al : Option Loc
  nb : List (List PV)
def putE (st : St) (d : Nat) (e : Eff) : St := { sl := (d, e.p) :: st.sl, ow := (if e.own then [.slot d] else []) ++ dropSlot d st.ow, al := (match e.al with | some L => [(d, L)] | none => []) ++ dropAl d st.al, bx := st.bx ++ e.nb }
/-- The last of a first part may make a box. -/
def makes : COp → Bool
  | .alloc _ | .box .. => true
  | _ => false
theorem putE_put (st : St) (d : Nat) (p : PV) : putE st d ⟨p, false, none, []⟩ = st.put d p := by simp [putE, St.put]
theorem putE_own (st : St) (d : Nat) (p : PV) : putE st d ⟨p, true, none, []⟩ = st.putOwn d p := by simp [putE, St.putOwn]
theorem xev_congr {sl sl' : List (Nat × PV)} {x : X} (h : ∀ s ∈ x.slots, look sl s = look sl' s) : x.ev sl = x.ev sl' := by
  cases x with
  | t s => exact h s (by simp [X.slots])
  | c v => rfl
theorem evs_congr {sl sl' : List (Nat × PV)} {c : COp} (h : ∀ s ∈ c.xs.flatMap X.slots, look sl s = look sl' s) : ∀ x ∈ c.xs, x.ev sl = x.ev sl' := fun x hx => xev_congr fun s hs => h s (List.mem_flatMap.2 ⟨x, hx, hs⟩)
theorem loadV_mono {ag : Bool} {n : Nat} {p v : PV} {bx : Boxes} (z : Boxes) (h : loadV ag n p bx = some v) : loadV ag n p (bx ++ z) = some v := by
  unfold loadV at h ⊢
  cases p with
  | ptr b o =>
    dsimp only at h ⊢
    obtain ⟨cs, h1, h2⟩ := Option.bind_eq_some_iff.1 h
    rw [List.getElem?_append_left (List.getElem?_eq_some_iff.1 h1).1, h1]; exact h2
  | elt cs => exact h
  | _ => cases h
/-- An operation of the first part: what it leaves hangs on what it reads alone. -/
theorem pre_local {cf : Callee} {st st' : St} {o : COper} {d : Nat} (hs : stepP cf st o = some st') (hk : preKind o.op = true) (hd : o.dst = some d) :
    ∃ e : Eff, st' = putE st d e ∧ e.nb = [] ∧ (∀ s, e.al = some (.slot s) → s ∈ o.reads) ∧ ∀ st2 : St, (∀ s ∈ o.reads, look st2.sl s = look st.sl s) → (∃ z, st2.bx = st.bx ++ z) → stepP cf st2 o = some (putE st2 d e) := by
  obtain ⟨dst, g, c⟩ := o
  dsimp only at hd hk
  subst hd
  unfold stepP at hs
  obtain ⟨b, hb, hs2⟩ := Option.bind_eq_some_iff.1 hs
  clear hs
  have hs := hs2; clear hs2
  dsimp only at hb hs
  have hg2 : ∀ st2 : St, (∀ s ∈ (COper.mk (some d) g c).reads, look st2.sl s = look st.sl s) → guardOk st2 g = some b := fun st2 h => by
    rw [← hb]
    cases g with
    | none => rfl
    | some q =>
      obtain ⟨s, want⟩ := q
      simp only [guardOk]
      rw [h s (by simp [COper.reads])]
  cases b with
  | false =>
    simp only [Bool.false_eq_true, if_false, Option.some.injEq] at hs
    refine ⟨⟨.tup [], false, none, []⟩, by rw [← hs, putE_put]; rfl, rfl, (fun _ h => by cases h), fun st2 h _ => ?_⟩
    unfold stepP
    simp only [hg2 st2 h, Option.bind_some, Bool.false_eq_true, if_false, putE_put]; rfl
  | true =>
    simp only [if_true] at hs
    split at hs
    case isFalse => cases hs
    rename_i hdyn
    have fin : ∀ e : Eff, e.nb = [] → st' = putE st d e → (∀ s, e.al = some (.slot s) → .t s ∈ c.xs) → (∀ st2 : St, (∀ x ∈ c.xs, x.ev st2.sl = x.ev st.sl) → (∃ z, st2.bx = st.bx ++ z) → preDyn st2.sl c = true ∧ stepOp cf st2 (some d) c = some (putE st2 d e)) →
        ∃ e : Eff, st' = putE st d e ∧ e.nb = [] ∧ (∀ s, e.al = some (.slot s) → s ∈ (COper.mk (some d) g c).reads) ∧ ∀ st2 : St, (∀ s ∈ (COper.mk (some d) g c).reads, look st2.sl s = look st.sl s) → (∃ z, st2.bx = st.bx ++ z) → stepP cf st2 ⟨some d, g, c⟩ = some (putE st2 d e) := fun e hnb h1 h0 h2 => by
      refine ⟨e, h1, hnb, fun s hs => by simp only [COper.reads]; exact List.mem_append.2 (.inl (List.mem_flatMap.2 ⟨_, h0 s hs, by simp [X.slots]⟩)), fun st2 h hbx => ?_⟩
      obtain ⟨k1, k2⟩ := h2 st2 (evs_congr fun s hs => h s (by simp only [COper.reads]; exact List.mem_append.2 (.inl hs))) hbx
      unfold stepP
      simp only [hg2 st2 h, Option.bind_some, if_true, k1, k2]
    have plain : plainOp c = true → (∀ sl, preDyn sl c = true) → ∃ e : Eff, st' = putE st d e ∧ e.nb = [] ∧ (∀ s, e.al = some (.slot s) → s ∈ (COper.mk (some d) g c).reads) ∧ ∀ st2 : St, (∀ s ∈ (COper.mk (some d) g c).reads, look st2.sl s = look st.sl s) → (∃ z, st2.bx = st.bx ++ z) → stepP cf st2 ⟨some d, g, c⟩ = some (putE st2 d e) := fun hp hpd => by
      rw [stepOp_plain hp] at hs
      obtain ⟨p, h1, rfl⟩ := Option.map_eq_some_iff.1 hs
      refine fin ⟨p, false, none, []⟩ rfl (by rw [putE_put]; rfl) (fun _ h => by cases h) fun st2 h _ => ⟨hpd _, ?_⟩
      rw [stepOp_plain hp, simpleV_congr (ρ' := (·.ev st.sl)) h, h1, putE_put]; rfl
    have calls : ∀ (f : FuncId) (as : List X) (cs : List PV), noPtrs (as.map (·.ev st.sl) ++ cs) = true → callSt cf st (some d) f (as.map (·.ev st.sl) ++ cs) = some st' →
        (∀ st2 : St, (∀ x ∈ c.xs, x.ev st2.sl = x.ev st.sl) → preDyn st2.sl c = preDyn st.sl c ∧ stepOp cf st2 (some d) c = callSt cf st2 (some d) f (as.map (·.ev st.sl) ++ cs)) →
        ∃ e : Eff, st' = putE st d e ∧ e.nb = [] ∧ (∀ s, e.al = some (.slot s) → s ∈ (COper.mk (some d) g c).reads) ∧ ∀ st2 : St, (∀ s ∈ (COper.mk (some d) g c).reads, look st2.sl s = look st.sl s) → (∃ z, st2.bx = st.bx ++ z) → stepP cf st2 ⟨some d, g, c⟩ = some (putE st2 d e) := fun f as cs hnp hcall hst2 => by
      unfold callSt at hcall
      rw [if_pos hnp] at hcall
      obtain ⟨⟨vs', os, bx', oc'⟩, k1, k2⟩ := Option.bind_eq_some_iff.1 hcall
      dsimp only at k2
      split at k2
      case isFalse => cases k2
      rename_i hnp'
      have e1 : ∀ s : St, (if os then s.putOwn d (tupOf vs') else s.put d (tupOf vs')) = putE s d ⟨tupOf vs', os, none, []⟩ := fun s => by
        cases os
        · rw [putE_put]; rfl
        · rw [putE_own]; rfl
      rw [e1] at k2
      cases k2
      refine fin ⟨tupOf vs', os, none, []⟩ rfl rfl (fun _ h => by cases h) fun st2 h _ => ?_
      obtain ⟨q1, q2⟩ := hst2 st2 h
      refine ⟨q1.trans hdyn, ?_⟩
      rw [q2]
      unfold callSt
      rw [if_pos hnp, k1]
      simp only [Option.bind_some]
      rw [if_pos hnp', e1]
    cases c
    case mvA sx =>
      clear plain calls
      obtain ⟨hsd, hs3⟩ : sx ≠ d ∧ st' = { (st.put d (look st.sl sx)) with al := (d, .slot sx) :: dropAl d st.al } := by
        simp only [stepOp, Option.bind_some] at hs
        split at hs
        · cases hs
        · rename_i hsd
          exact ⟨hsd, (Option.some.inj hs).symm⟩
      refine fin ⟨look st.sl sx, false, some (.slot sx), []⟩ rfl (by rw [hs3]; simp [putE, St.put]) (fun s h => by cases h; simp [COp.xs]) fun st2 h _ => ⟨rfl, ?_⟩
      have h1 : look st2.sl sx = look st.sl sx := h (.t sx) (by simp [COp.xs])
      simp only [stepOp, Option.bind_some, if_neg hsd, h1]
      simp [putE, St.put]
    case mksl n size zs ps =>
      simp only [stepOp, Option.bind_some] at hs
      obtain ⟨cs, h1, rfl⟩ := Option.map_eq_some_iff.1 hs
      refine fin ⟨.slc n cs, true, none, []⟩ rfl (by rw [putE_own]) (fun _ h => by cases h) fun st2 h _ => ⟨rfl, ?_⟩
      have : (ps.map fun q => (q.1, q.2.1, q.2.2.ev st2.sl)) = ps.map fun q => (q.1, q.2.1, q.2.2.ev st.sl) := List.map_congr_left fun q hq => by
        rw [h q.2.2 (List.mem_map.2 ⟨q, hq, rfl⟩)]
      simp only [stepOp, Option.bind_some, this, h1, Option.map_some, putE_own]
    case load ag n x =>
      simp only [stepOp, Option.bind_some] at hs
      obtain ⟨p, h1, rfl⟩ := Option.map_eq_some_iff.1 hs
      refine fin ⟨p, false, none, []⟩ rfl (by rw [putE_put]) (fun _ h => by cases h) fun st2 h hbx => ⟨rfl, ?_⟩
      obtain ⟨z, hz⟩ := hbx
      simp only [stepOp, Option.bind_some, h x (by simp [COp.xs]), hz, loadV_mono z h1, Option.map_some, putE_put]
    case loadA x =>
      simp only [stepOp, Option.bind_some] at hs
      split at hs
      · rename_i b o e1
        obtain ⟨p, h1, rfl⟩ := Option.map_eq_some_iff.1 hs
        refine fin ⟨p, false, some (.cell b o), []⟩ rfl (by simp [putE, St.put]) (fun _ h => by cases h) fun st2 h hbx => ⟨rfl, ?_⟩
        obtain ⟨z, hz⟩ := hbx
        have h1' : ((st.bx ++ z)[b]?.bind fun cs => cs[o]?) = some p := by
          obtain ⟨cs, h2, h3⟩ := Option.bind_eq_some_iff.1 h1
          rw [List.getElem?_append_left (List.getElem?_eq_some_iff.1 h2).1, h2]; exact h3
        simp only [stepOp, Option.bind_some, h x (by simp [COp.xs]), hz, e1, h1', Option.map_some]
        simp [putE, St.put]
      · cases hs
    case call f args =>
      simp only [stepOp] at hs
      simp only [preDyn] at hdyn
      refine calls f args [] (by simpa using hdyn) (by simpa using hs) fun st2 h => ?_
      have : args.map (·.ev st2.sl) = args.map (·.ev st.sl) := List.map_congr_left fun q hq => h q hq
      simp only [preDyn, stepOp, this, List.append_nil, and_self]
    case callv gx args =>
      simp only [stepOp] at hs
      simp only [preDyn] at hdyn
      split at hs
      · rename_i f caps e1
        rw [e1] at hdyn
        refine calls f args caps hdyn hs fun st2 h => ?_
        have h1 : args.map (·.ev st2.sl) = args.map (·.ev st.sl) := List.map_congr_left fun q hq => h q (by simp [COp.xs, hq])
        have h2 : gx.ev st2.sl = .clo f caps := (h gx (by simp [COp.xs])).trans e1
        simp only [preDyn, stepOp, h1, h2, e1, and_self]
      · cases hs
    case asg x => cases hk
    case alloc zs => cases hk
    case box n x => cases hk
    case store n x y => cases hk
    case append n x y => cases hk
    all_goals exact plain rfl fun _ => rfl
/-- The last of a first part, which makes a box. -/
theorem make_local {cf : Callee} {st st' : St} {o : COper} {d : Nat} (hs : stepP cf st o = some st') (hk : makes o.op = true) (hd : o.dst = some d) :
    ∃ e : Eff, st' = putE st d e ∧ (∀ s, e.al = some (.slot s) → s ∈ o.reads) ∧ ∀ st2 : St, (∀ s ∈ o.reads, look st2.sl s = look st.sl s) → st2.bx = st.bx → stepP cf st2 o = some (putE st2 d e) := by
  obtain ⟨dst, g, c⟩ := o
  dsimp only at hd hk
  subst hd
  unfold stepP at hs
  obtain ⟨b, hb, hs2⟩ := Option.bind_eq_some_iff.1 hs
  clear hs
  have hs := hs2; clear hs2
  dsimp only at hb hs
  have hg2 : ∀ st2 : St, (∀ s ∈ (COper.mk (some d) g c).reads, look st2.sl s = look st.sl s) → guardOk st2 g = some b := fun st2 h => by
    rw [← hb]
    cases g with
    | none => rfl
    | some q =>
      obtain ⟨s, want⟩ := q
      simp only [guardOk]
      rw [h s (by simp [COper.reads])]
  cases b with
  | false =>
    simp only [Bool.false_eq_true, if_false, Option.some.injEq] at hs
    refine ⟨⟨.tup [], false, none, []⟩, by rw [← hs, putE_put]; rfl, (fun _ h => by cases h), fun st2 h _ => ?_⟩
    unfold stepP
    simp only [hg2 st2 h, Option.bind_some, Bool.false_eq_true, if_false, putE_put]; rfl
  | true =>
    simp only [if_true] at hs
    split at hs
    case isFalse => cases hs
    rename_i hdyn
    cases c
    case alloc zs =>
      simp only [stepOp, Option.map_some, Option.some.injEq] at hs
      refine ⟨⟨.ptr st.bx.length 0, false, none, [zs]⟩, by rw [← hs]; simp [putE, St.put], (fun _ h => by cases h), fun st2 h hbx => ?_⟩
      unfold stepP
      simp only [hg2 st2 h, Option.bind_some, if_true, preDyn, stepOp, Option.map_some, hbx]
      simp [putE, St.put, hbx]
    case box n x =>
      simp only [stepOp, Option.bind_some] at hs
      split at hs
      case isFalse => cases hs
      rename_i hc
      cases hs
      refine ⟨⟨.ptr st.bx.length 0, false, none, [(x.ev st.sl).cells]⟩, by simp [putE, St.put], (fun _ h => by cases h), fun st2 h hbx => ?_⟩
      have hx : x.ev st2.sl = x.ev st.sl := evs_congr (c := .box n x) (fun s hs => h s (by simp only [COper.reads]; exact List.mem_append.2 (.inl hs))) x (by simp [COp.xs])
      unfold stepP
      simp only [hg2 st2 h, Option.bind_some, if_true, preDyn, stepOp, hx, if_pos hc, hbx]
      simp [putE, St.put, hbx]
    all_goals cases hk
end Nun

/- A statement whose order is open, in whatever order the tape picks. -/
namespace Nun
open Go Go.RowKit
def directs (ops : Array Oper) (i : Nat) : List Nat := match ops[i]? with
  | some o => o.after.toList.filterMap fun e => if Region.binds .any e then some e.on else none
  | none => []
def ancL : List (List Nat) → List (List Nat) → List (List Nat)
  | acc, [] => acc
  | acc, ds :: r => ancL (acc ++ [(ds.flatMap fun j => j :: acc.getD j []).eraseDups]) r
def ancs (ops : Array Oper) : List (List Nat) := ancL [] ((List.range ops.size).map (directs ops))
/-- The first k operations stand for themselves; each of the others waits for all that stand before it. -/
def drawOk (ops : Array Oper) (cs : List COper) (k : Nat) : Bool :=
  let an := ancs ops
  decide (k ≤ cs.length) &&
  (List.range ops.size).all (fun i => (directs ops i).all (· < i)) &&
  (List.range k).all (fun i => match cs[i]? with
    | some o => (preKind o.op || (i + 1 == k && makes o.op)) && o.dst.isSome
    | none => true) &&
  (List.range k).all (fun i => (List.range k).all fun j => i == j || ((cs[i]?).bind (·.dst)) != ((cs[j]?).bind (·.dst))) &&
  (List.range k).all (fun i => match cs[i]? with
    | some o => o.reads.all fun s => (List.range k).all fun j => ((cs[j]?).bind (·.dst)) != some s || (decide (j < i) && (an.getD i []).contains j)
    | none => true) &&
  (List.range cs.length).all (fun i => decide (i < k) || (List.range i).all fun j => (an.getD i []).contains j)
theorem anc_mem {dir : List (List Nat)} {E : Nat → Prop} (hE : ∀ i, E i → ∀ j ∈ dir.getD i [], E j) : ∀ (r acc done : List (List Nat)), dir = done ++ r → acc.length = done.length →
    (∀ i, (∀ j ∈ done.getD i [], E j) → ∀ x ∈ acc.getD i [], E x) → ∀ i, (∀ j ∈ dir.getD i [], E j) → ∀ x ∈ (ancL acc r).getD i [], E x
  | [], acc, done, hd, hl, h, i, hi, x, hx => by
    simp only [ancL] at hx
    rw [hd, List.append_nil] at hi
    exact h i hi x hx
  | ds :: r, acc, done, hd, hl, h, i, hi, x, hx => by
    simp only [ancL] at hx
    refine anc_mem hE r _ (done ++ [ds]) (by rw [hd]; simp) (by simp [hl]) (fun i' hi' x' hx' => ?_) i hi x hx
    by_cases hlt : i' < acc.length
    · rw [List.getD_eq_getElem?_getD, List.getElem?_append_left hlt] at hx'
      rw [List.getD_eq_getElem?_getD, List.getElem?_append_left (by omega)] at hi'
      exact h i' (by rw [List.getD_eq_getElem?_getD]; exact hi') x' (by rw [List.getD_eq_getElem?_getD]; exact hx')
    · by_cases he : i' = acc.length
      · subst he
        rw [List.getD_eq_getElem?_getD, List.getElem?_append_right (Nat.le_refl _)] at hx'
        rw [List.getD_eq_getElem?_getD, hl, List.getElem?_append_right (Nat.le_refl _)] at hi'
        simp only [Nat.sub_self, List.getElem?_cons_zero, Option.getD_some] at hx' hi'
        have hx2 := List.mem_eraseDups.1 hx'
        obtain ⟨j, hj, hx3⟩ := List.mem_flatMap.1 hx2
        have hEj := hi' j hj
        rcases List.mem_cons.1 hx3 with e | hx4
        · rw [e]; exact hEj
        · refine h j (fun y hy => hE j hEj y ?_) x' hx4
          rw [hd]
          by_cases hjl : j < done.length
          · rw [List.getD_eq_getElem?_getD, List.getElem?_append_left hjl]; rwa [List.getD_eq_getElem?_getD] at hy
          · rw [List.getD_eq_getElem?_getD, List.getElem?_eq_none (by omega)] at hy; cases hy
      · rw [List.getD_eq_getElem?_getD, List.getElem?_eq_none (by simp; omega)] at hx'; cases hx'
theorem ancs_mem {ops : Array Oper} {E : Nat → Prop} (hE : ∀ i, E i → ∀ j ∈ directs ops i, E j) {i : Nat} (hi : i < ops.size) (h : ∀ j ∈ directs ops i, E j) : ∀ x ∈ (ancs ops).getD i [], E x := by
  have hg : ∀ i, i < ops.size → ((List.range ops.size).map (directs ops)).getD i [] = directs ops i := fun i hi => by
    rw [List.getD_eq_getElem?_getD, List.getElem?_map, List.getElem?_range hi]; rfl
  refine anc_mem (dir := (List.range ops.size).map (directs ops)) (fun i' hEi j hj => ?_) _ [] [] rfl rfl (fun i _ x hx => by simp at hx) i (by rw [hg i hi]; exact h)
  by_cases hlt : i' < ops.size
  · rw [hg i' hlt] at hj; exact hE i' hEi j hj
  · rw [List.getD_eq_getElem?_getD, List.getElem?_eq_none (by simp; omega)] at hj; cases hj
section
variable {P : Program} {w w' : World} {Fr Fr' : Nat → Nat} {β β' : List Nat} {base nt : Nat} {M : Nat → Prop} {w0 : World} {F0 : Nat → Nat} {st st' : St} {a a' : Act} {cf : Callee} {Γ : Glob} {S : S0}
theorem Rl.congr (h : Rl S st a w) (h1 : ∀ i, look st'.sl i = look st.sl i) (h2 : ∀ L, L ∈ st'.ow → L ∈ st.ow) (h3 : ∀ q, q ∈ st'.al → q ∈ st.al) (h4 : st'.bx = st.bx) : Rl S st' a w := by
  obtain ⟨Fr, β, R, hl⟩ := h
  have hpv : ∀ L, pvAt st' L = pvAt st L := fun L => by cases L <;> simp only [pvAt, h1, h4]
  exact ⟨Fr, β, ⟨fun i => by rw [h1]; exact R.sl i, R.nt, R.df, by rw [h4]; exact R.bx, R.nd, fun L hL => by rw [hpv]; exact R.own L (h2 L hL), fun L hL L' hL' => R.sep L (h2 L hL) L' (h2 L' hL'), fun L hL => R.out L (h2 L hL), fun q hq => R.al q (h3 q hq),
    fun g hg => R.may g (hg.imp id fun ⟨L, k1, k2⟩ => ⟨L, h2 L k1, k2⟩), R.old, R.ge, R.os, R.tape, R.output⟩, hl⟩
/-- Which operations of the first part have been carried out, in whatever order. -/
structure Sat (k : Nat) (d : Nat → Nat) (eff : Nat → Eff) (E : Nat → Prop) (st0 st : St) : Prop where
  e1 : ∀ i, i < k → E i → look st.sl (d i) = (eff i).p
  e2 : ∀ s, (∀ i, i < k → E i → d i ≠ s) → look st.sl s = look st0.sl s
  e3 : ∀ L, L ∈ st.ow ↔ (∃ i, i < k ∧ E i ∧ (eff i).own = true ∧ L = .slot (d i)) ∨ (L ∈ st0.ow ∧ ∀ i, i < k → E i → ment (d i) L = false)
  e4 : ∀ q, q ∈ st.al ↔ ∃ i, i < k ∧ E i ∧ (eff i).al = some q.2 ∧ q.1 = d i
  e5 : (∀ i, i < k → E i → (eff i).nb = []) → st.bx = st0.bx
  e6 : ∀ i, i < k → E i → (eff i).nb ≠ [] → st.bx = st0.bx ++ (eff i).nb
theorem Sat.start {k : Nat} {d : Nat → Nat} {eff : Nat → Eff} {st0 : St} (h : st0.al = []) : Sat k d eff (fun _ => False) st0 st0 :=
  ⟨fun _ _ h => h.elim, fun _ _ => rfl, fun L => ⟨fun h => .inr ⟨h, fun _ _ h => h.elim⟩, fun h => h.elim (fun ⟨_, _, h, _⟩ => h.elim) (·.1)⟩, fun q => by rw [h]; exact ⟨(fun h => by cases h), fun ⟨_, _, h, _⟩ => h.elim⟩, fun _ => rfl, fun _ _ h => h.elim⟩
theorem Sat.step {k : Nat} {d : Nat → Nat} {eff : Nat → Eff} {E : Nat → Prop} {st0 st : St} (h : Sat k d eff E st0 st) (hd : ∀ i j, i < k → j < k → i ≠ j → d i ≠ d j) {i : Nat} (hi : i < k) (hn : ¬ E i)
    (hnb : ∀ j, j < k → (eff j).nb ≠ [] → j + 1 = k) (hal : ∀ j, j < k → E j → ∀ L, (eff j).al = some L → ment (d i) L = false) : Sat k d eff (fun j => E j ∨ j = i) st0 (putE st (d i) (eff i)) := by
  have hne : ∀ j, j < k → E j → d j ≠ d i := fun j hj hE => hd j i hj hi fun e => hn (e ▸ hE)
  refine ⟨fun j hj hE => ?_, fun s hs => ?_, fun L => ?_, fun q => ?_, fun hall => ?_, fun j hj hE hne' => ?_⟩
  rotate_left 4
  · have h1 := h.e5 fun j hj hE => hall j hj (.inl hE)
    simp only [putE, h1, hall i hi (.inr rfl), List.append_nil]
  · rcases hE with hE | rfl
    · have h1 : (eff i).nb = [] := Classical.byContradiction fun hc => by
        have e1 := hnb i hi hc
        have e2 := hnb j hj hne'
        exact hn ((show i = j by omega) ▸ hE)
      simp only [putE, h1, List.append_nil]
      exact h.e6 j hj hE hne'
    · have h1 := h.e5 fun m hm hE => Classical.byContradiction fun hc => by
        have e1 := hnb j hj hne'
        have e2 := hnb m hm hc
        exact hn ((show m = j by omega) ▸ hE)
      simp only [putE, h1]
  · simp only [putE, look_cons]
    rcases hE with hE | rfl
    · rw [if_neg (Ne.symm (hne j hj hE))]; exact h.e1 j hj hE
    · rw [if_pos rfl]
  · simp only [putE, look_cons]
    rw [if_neg (hs i hi (.inr rfl))]
    exact h.e2 s fun j hj hE => hs j hj (.inl hE)
  · simp only [putE, List.mem_append, mem_dropSlot]
    constructor
    · rintro (hm | ⟨hm, hx⟩)
      · left
        cases ho : (eff i).own with
        | false => rw [ho] at hm; cases hm
        | true => rw [ho] at hm; simp at hm; exact ⟨i, hi, .inr rfl, ho, hm⟩
      · rcases (h.e3 L).1 hm with ⟨j, k1, k2, k3, k4⟩ | ⟨k1, k2⟩
        · exact .inl ⟨j, k1, .inl k2, k3, k4⟩
        · refine .inr ⟨k1, fun j hj hE => ?_⟩
          rcases hE with hE | rfl
          · exact k2 j hj hE
          · exact hx
    · rintro (⟨j, k1, k2, k3, k4⟩ | ⟨k1, k2⟩)
      · rcases k2 with k2 | rfl
        · right
          refine ⟨(h.e3 L).2 (.inl ⟨j, k1, k2, k3, k4⟩), ?_⟩
          rw [k4]; simp [ment]; exact hne j k1 k2
        · left; rw [k3, k4]; simp
      · exact .inr ⟨(h.e3 L).2 (.inr ⟨k1, fun j hj hE => k2 j hj (.inl hE)⟩), k2 i hi (.inr rfl)⟩
  · simp only [putE, List.mem_append, mem_dropAl]
    constructor
    · rintro (hm | ⟨hm, hx, hy⟩)
      · cases ho : (eff i).al with
        | none => rw [ho] at hm; cases hm
        | some L =>
          rw [ho] at hm; simp at hm
          exact ⟨i, hi, .inr rfl, by rw [ho, hm], by rw [hm]⟩
      · obtain ⟨j, k1, k2, k3, k4⟩ := (h.e4 q).1 hm
        exact ⟨j, k1, .inl k2, k3, k4⟩
    · rintro ⟨j, k1, k2, k3, k4⟩
      rcases k2 with k2 | rfl
      · exact .inr ⟨(h.e4 q).2 ⟨j, k1, k2, k3, k4⟩, by rw [k4]; exact hne j k1 k2, hal j k1 k2 _ k3⟩
      · left; rw [k3]; simp; rw [← k4]
/-- The first part in the order of the text: what each operation leaves. -/
theorem pre_effs : ∀ (l : List COper) (st stk : St), evPre cf l st = some stk → (∀ (i : Nat) (o : COper), l[i]? = some o → (preKind o.op = true ∨ (i + 1 = l.length ∧ makes o.op = true)) ∧ o.dst.isSome = true) →
    ∃ (es : List Eff) (ss : List St), es.length = l.length ∧ ss[0]? = some st ∧ ss[l.length]? = some stk ∧ ∀ i o, l[i]? = some o → ∃ e s d, es[i]? = some e ∧ ss[i]? = some s ∧ o.dst = some d ∧ ss[i + 1]? = some (putE s d e) ∧ (∀ x, e.al = some (.slot x) → x ∈ o.reads) ∧ (e.nb ≠ [] → i + 1 = l.length) ∧
      ∀ st2 : St, (∀ x ∈ o.reads, look st2.sl x = look s.sl x) → (∃ z, st2.bx = s.bx ++ z) → (i + 1 = l.length → st2.bx = s.bx) → stepP cf st2 o = some (putE st2 d e)
  | [], st, stk, h, _ => by
    simp only [evPre, Option.some.injEq] at h; subst h
    exact ⟨[], [st], rfl, rfl, rfl, fun i o hi => by simp at hi⟩
  | o :: l, st, stk, h, hk => by
    simp only [evPre] at h
    obtain ⟨s1, h1, h2⟩ := Option.bind_eq_some_iff.1 h
    obtain ⟨hk1, hk2⟩ := hk 0 o (by simp)
    obtain ⟨d, hd⟩ := Option.isSome_iff_exists.1 hk2
    obtain ⟨e, e1, h4, h4b, h5⟩ : ∃ e : Eff, s1 = putE st d e ∧ (∀ x, e.al = some (.slot x) → x ∈ o.reads) ∧ (e.nb ≠ [] → 0 + 1 = (o :: l).length) ∧ ∀ st2 : St, (∀ x ∈ o.reads, look st2.sl x = look st.sl x) → (∃ z, st2.bx = st.bx ++ z) → (0 + 1 = (o :: l).length → st2.bx = st.bx) → stepP cf st2 o = some (putE st2 d e) := by
      rcases hk1 with hk1 | ⟨hk1, hk3⟩
      · obtain ⟨e, e1, e2, e3, e4⟩ := pre_local h1 hk1 hd
        exact ⟨e, e1, e3, fun h => absurd e2 h, fun st2 k1 k2 _ => e4 st2 k1 k2⟩
      · obtain ⟨e, e1, e3, e4⟩ := make_local h1 hk3 hd
        exact ⟨e, e1, e3, fun _ => hk1, fun st2 k1 _ k3 => e4 st2 k1 (k3 hk1)⟩
    subst e1
    obtain ⟨es, ss, k1, k2, k3, k4⟩ := pre_effs l _ stk h2 fun i o' ho' => by
      obtain ⟨q1, q2⟩ := hk (i + 1) o' (by simpa using ho')
      exact ⟨q1.imp id fun ⟨q3, q4⟩ => ⟨by simpa using q3, q4⟩, q2⟩
    refine ⟨e :: es, st :: ss, by simp [k1], rfl, by simpa using k3, fun i o' hi => ?_⟩
    cases i with
    | zero =>
      simp at hi; subst hi
      exact ⟨e, st, d, rfl, rfl, hd, by simpa using k2, h4, h4b, h5⟩
    | succ i =>
      obtain ⟨e', s', d', q1, q2, q3, q4, q5, q6, q7⟩ := k4 i o' (by simpa using hi)
      exact ⟨e', s', d', by simpa using q1, by simpa using q2, q3, by simpa using q4, q5, (fun h => by have := q6 h; simp; omega), fun st2 u1 u2 u3 => q7 st2 u1 u2 fun u4 => u3 (by simp; omega)⟩
theorem stepP_G {o : COper} (h : stepP cf st o = some st') : stepG cf st o = some st' := by
  unfold stepP at h
  obtain ⟨b, hb, h⟩ := Option.bind_eq_some_iff.1 h
  unfold stepG
  rw [hb]
  cases b with
  | false => exact h
  | true =>
    simp only [if_true] at h
    simp only [Option.bind_some, if_true]
    split at h
    · exact h
    · cases h
theorem wpOp_of {ops : Array Oper} {Q : Exit → Act → World → Prop} {K : Act → World → Prop} {i : Nat} {o : Oper} (ho : ops[i]? = some o) (h : if Region.wanted o (yielded ops a.tmps) then o.wp P a w K Q ∨ (o.asks P a w ∧ LetsOut Q) else K (a.put o.dst undef) w) : wpOp P ops Q i K a w := by
  unfold wpOp
  simp only [ho]; exact h
theorem draw_run (hcf : CallOk P Γ cf) (hS : Good Γ S) {ops : Array Oper} {ali : List Nat} {cs : List COper} {k : Nat} {Q : Exit → Act → World → Prop} {st0 stk stF : St} (hok : drawOk ops cs k = true) (hlen : cs.length = ops.size)
    (hco : ∀ (j : Nat) (c : COper), cs[j]? = some c → ∃ o, ops[j]? = some o ∧ coOper P S.nt ops ali o = some c) (hal : st0.al = []) (hpre : evPre cf (cs.take k) st0 = some stk) (htail : evOps cf (cs.drop k) stk = some stF) (hr : Rl S st0 a w)
    (hK : ∀ a' w', Rl S stF a' w' → Q .normal a' w') : wpAny P .any ops Q ops.size (Array.replicate ops.size false) a w := by
  unfold drawOk at hok
  simp only [Bool.and_eq_true, decide_eq_true_eq, List.all_eq_true, List.mem_range, Bool.or_eq_true, bne_iff_ne, ne_eq, beq_iff_eq] at hok
  obtain ⟨⟨⟨⟨⟨hk, hback⟩, hkind⟩, hdist⟩, hreads⟩, htl⟩ := hok
  have hkl : (cs.take k).length = k := by rw [List.length_take]; omega
  have hkind' : ∀ (i : Nat) (o : COper), (cs.take k)[i]? = some o → (preKind o.op = true ∨ (i + 1 = (cs.take k).length ∧ makes o.op = true)) ∧ o.dst.isSome = true := fun i o hi => by
    have hik : i < k := by rw [← hkl]; exact (List.getElem?_eq_some_iff.1 hi).1
    rw [List.getElem?_take_of_lt hik] at hi
    have := hkind i hik
    rw [hi] at this
    simp only [Bool.and_eq_true, Bool.or_eq_true, beq_iff_eq] at this
    rw [hkl]; exact this
  obtain ⟨es, ss, hel, hs0, hsk, hss⟩ := pre_effs (cf := cf) (cs.take k) st0 stk hpre hkind'
  rw [hkl] at hel hsk hss
  -- the functions
  obtain ⟨d, hd⟩ : ∃ d : Nat → Nat, ∀ (i : Nat) (c : COper), i < k → cs[i]? = some c → c.dst = some (d i) := by
    refine ⟨fun i => ((cs[i]?).bind (·.dst)).getD 0, fun i c hi hc => ?_⟩
    have h1 := (hkind' i c (show (cs.take k)[i]? = some c by rw [List.getElem?_take_of_lt hi]; exact hc)).2
    obtain ⟨x, hx⟩ := Option.isSome_iff_exists.1 h1
    simp [hc, hx]
  obtain ⟨eff, heff⟩ : ∃ eff : Nat → Eff, ∀ (i : Nat) (e : Eff), es[i]? = some e → eff i = e := ⟨fun i => (es[i]?).getD ⟨.unk, false, none, []⟩, fun i e h => by simp [h]⟩
  have hcs : ∀ i : Nat, i < k → ∃ c, cs[i]? = some c := fun i hi => ⟨_, List.getElem?_eq_getElem (by omega)⟩
  have hdd : ∀ i j, i < k → j < k → i ≠ j → d i ≠ d j := fun i j hi hj hne e => by
    obtain ⟨c, hc⟩ := hcs i hi
    obtain ⟨c', hc'⟩ := hcs j hj
    rcases hdist i hi j hj with h | h
    · exact hne h
    · exact h (by rw [hc, hc']; simp [hd i c hi hc, hd j c' hj hc', e])
  have hrd : ∀ (i : Nat) (c : COper), i < k → cs[i]? = some c → ∀ s ∈ c.reads, ∀ j, j < k → d j = s → j < i ∧ j ∈ (ancs ops).getD i [] := fun i c hi hc s hs j hj hdj => by
    have h1 := hreads i hi
    rw [hc] at h1
    simp only [List.all_eq_true, List.mem_range, Bool.or_eq_true, bne_iff_ne, ne_eq, Bool.and_eq_true, decide_eq_true_eq] at h1
    obtain ⟨c', hc'⟩ := hcs j hj
    rcases h1 s hs j hj with h | ⟨h2, h3⟩
    · exact absurd (by rw [hc']; simp [hd j c' hj hc', hdj]) h
    · exact ⟨h2, by simpa using h3⟩
  -- what each operation needs and gives
  have hop : ∀ i : Nat, i < k → ∃ c s, cs[i]? = some c ∧ ss[i]? = some s ∧ ss[i + 1]? = some (putE s (d i) (eff i)) ∧ (∀ x, (eff i).al = some (.slot x) → x ∈ c.reads) ∧ ((eff i).nb ≠ [] → i + 1 = k) ∧
      ∀ st2 : St, (∀ x ∈ c.reads, look st2.sl x = look s.sl x) → (∃ z, st2.bx = s.bx ++ z) → (i + 1 = k → st2.bx = s.bx) → stepP cf st2 c = some (putE st2 (d i) (eff i)) := fun i hi => by
    obtain ⟨c, hc⟩ := hcs i hi
    obtain ⟨e, s, dd, q1, q2, q3, q4, q5, q6, q7⟩ := hss i c (by rw [List.getElem?_take_of_lt hi]; exact hc)
    have h1 := hd i c hi hc
    rw [q3] at h1; cases h1
    have h2 := heff i e q1
    subst h2
    exact ⟨c, s, hc, q2, q4, q5, q6, q7⟩
  have hnb : ∀ j, j < k → (eff j).nb ≠ [] → j + 1 = k := fun j hj h => by
    obtain ⟨_, _, _, _, _, _, h6, _⟩ := hop j hj
    exact h6 h
  have halx : ∀ i, i < k → ∀ j, j < k → ∀ E : Nat → Prop, ¬ E i → E j → (∀ x ∈ (ancs ops).getD j [], E x) → ∀ L, (eff j).al = some L → ment (d i) L = false := fun i hi j hj E hn hE hcl L hL => by
    cases L with
    | cell b o => rfl
    | slot x =>
      simp only [ment, beq_eq_false_iff_ne, ne_eq]
      intro e
      obtain ⟨c, s, hc, _, _, h5, _, _⟩ := hop j hj
      exact hn (hcl i (hrd j c hj hc x (h5 x hL) i hi e.symm).2)
  -- the states in the text's order
  have hsat : ∀ i : Nat, i ≤ k → ∃ s, ss[i]? = some s ∧ Sat k d eff (fun j => j < i) st0 s := fun i => by
    induction i with
    | zero => exact fun _ => ⟨st0, hs0, by have := Sat.start (k := k) (d := d) (eff := eff) hal; simpa using this⟩
    | succ i ih =>
      intro hi
      obtain ⟨s, h1, h2⟩ := ih (by omega)
      obtain ⟨c, s', hc, h3, h4, h5, _, _⟩ := hop i hi
      rw [h1] at h3; cases h3
      refine ⟨_, h4, ?_⟩
      have := h2.step hdd (i := i) hi (by omega) hnb fun j hj hE L hL => by
        cases L with
        | cell b o => rfl
        | slot x =>
          simp only [ment, beq_eq_false_iff_ne, ne_eq]
          intro e
          obtain ⟨c', s'', hc', _, _, h6, _, _⟩ := hop j hj
          have := (hrd j c' hj hc' x (h6 x hL) i hi e.symm).1
          omega
      have e : (fun j => j < i ∨ j = i) = fun j => j < i + 1 := by funext j; apply propext; omega
      rw [e] at this; exact this
  have hsatk : Sat k d eff (fun j => j < k) st0 stk := by
    obtain ⟨s, h1, h2⟩ := hsat k (Nat.le_refl _)
    rw [hsk] at h1; cases h1; exact h2
  -- the tail's states
  have htails : ∀ m, k ≤ m → m ≤ ops.size → ∃ s, evOps cf ((cs.drop k).take (m - k)) stk = some s ∧ evOps cf (cs.drop m) s = some stF := by
    have split : ∀ (l : List COper) (n : Nat) (s : St), evOps cf l s = some stF → ∃ s', evOps cf (l.take n) s = some s' ∧ evOps cf (l.drop n) s' = some stF := by
      intro l
      induction l with
      | nil => intro n s h; exact ⟨s, by simp [evOps], by simpa using h⟩
      | cons o l ih =>
        intro n s h
        cases n with
        | zero => exact ⟨s, rfl, h⟩
        | succ n =>
          simp only [evOps] at h
          obtain ⟨s1, h1, h2⟩ := Option.bind_eq_some_iff.1 h
          obtain ⟨s', h3, h4⟩ := ih n s1 h2
          exact ⟨s', by simp only [List.take_succ_cons, evOps, h1, Option.bind_some]; exact h3, h4⟩
    intro m hm hm2
    obtain ⟨s, h1, h2⟩ := split (cs.drop k) (m - k) stk htail
    refine ⟨s, h1, ?_⟩
    rw [List.drop_drop] at h2
    rwa [show k + (m - k) = m by omega] at h2
  have evOps_append : ∀ (l l' : List COper) (s : St), evOps cf (l ++ l') s = (evOps cf l s).bind (evOps cf l') := by
    intro l
    induction l with
    | nil => intro l' s; rfl
    | cons o l ih =>
      intro l' s
      simp only [List.cons_append, evOps]
      cases stepG cf s o with
      | none => rfl
      | some s1 => simp only [Option.bind_some]; exact ih l' s1
  have tailstep : ∀ m, k ≤ m → m < ops.size → ∀ s, evOps cf ((cs.drop k).take (m - k)) stk = some s → ∃ c s', cs[m]? = some c ∧ stepG cf s c = some s' ∧ evOps cf ((cs.drop k).take (m + 1 - k)) stk = some s' := fun m hm hm2 s hs => by
    obtain ⟨s0, h1, h2⟩ := htails m hm (by omega)
    rw [hs] at h1; cases h1
    have hml : m < cs.length := by omega
    rw [List.drop_eq_getElem_cons hml] at h2
    simp only [evOps] at h2
    obtain ⟨s', h3, h4⟩ := Option.bind_eq_some_iff.1 h2
    refine ⟨cs[m], s', List.getElem?_eq_getElem hml, h3, ?_⟩
    have : (cs.drop k).take (m + 1 - k) = (cs.drop k).take (m - k) ++ [cs[m]] := by
      rw [show m + 1 - k = (m - k) + 1 by omega, List.take_succ_eq_append_getElem (by rw [List.length_drop]; omega)]
      congr 2
      rw [List.getElem_drop]; congr 1; omega
    rw [this, evOps_append, hs]
    simp only [Option.bind_some, evOps, h3]
  -- the run
  have setd : ∀ (listed : Array Bool) (i j : Nat), i < listed.size → ((listed.setIfInBounds i true).getD j false = true ↔ (listed.getD j false = true ∨ j = i)) := fun listed i j hi => by
    by_cases h : i = j
    · subst h; simp [hi]
    · rw [getD_set_ne false h]
      exact ⟨.inl, fun h' => h'.resolve_right (Ne.symm h)⟩
  have full : ∀ (E : Nat → Prop) (s : St) (a : Act) (w : World), Sat k d eff E st0 s → (∀ i, i < k → E i) → Rl S s a w → Rl S stk a w := fun E s a w hs hE hr => by
    refine hr.congr (fun x => ?_) (fun L hL => ?_) (fun q hq => ?_) ?_
    · by_cases hx : ∃ j, j < k ∧ d j = x
      · obtain ⟨j, hj, rfl⟩ := hx
        rw [hsatk.e1 j hj hj, hs.e1 j hj (hE j hj)]
      · have hx' : ∀ j, j < k → d j ≠ x := fun j hj e => hx ⟨j, hj, e⟩
        rw [hsatk.e2 x fun j hj _ => hx' j hj, hs.e2 x fun j hj _ => hx' j hj]
    · refine (hs.e3 L).2 (((hsatk.e3 L).1 hL).imp ?_ ?_)
      · rintro ⟨i, h1, h2, h3, h4⟩; exact ⟨i, h1, hE i h1, h3, h4⟩
      · rintro ⟨h1, h2⟩; exact ⟨h1, fun i hi _ => h2 i hi hi⟩
    · obtain ⟨i, h1, h2, h3, h4⟩ := (hsatk.e4 q).1 hq
      exact (hs.e4 q).2 ⟨i, h1, hE i h1, h3, h4⟩
    · by_cases hx : ∃ j, j < k ∧ (eff j).nb ≠ []
      · obtain ⟨j, hj, hj2⟩ := hx
        rw [hsatk.e6 j hj hj hj2, hs.e6 j hj (hE j hj) hj2]
      · have hx' : ∀ j, j < k → (eff j).nb = [] := fun j hj => Classical.byContradiction fun h => hx ⟨j, hj, h⟩
        rw [hsatk.e5 fun j hj _ => hx' j hj, hs.e5 fun j hj _ => hx' j hj]
  have fin : ∀ (listed : Array Bool) (a : Act) (w : World), (∀ i, i < ops.size → listed.getD i false = true) →
      ((∃ s, Sat k d eff (fun j => listed.getD j false = true) st0 s ∧ Rl S s a w ∧ ∀ i, k ≤ i → ¬ listed.getD i false = true) ∨
        (∃ m s, k ≤ m ∧ m ≤ ops.size ∧ (∀ i, i < ops.size → (listed.getD i false = true ↔ i < m)) ∧ evOps cf ((cs.drop k).take (m - k)) stk = some s ∧ Rl S s a w)) → Q .normal a w := fun listed a w hall h => by
    rcases h with ⟨s, h1, h2, h3⟩ | ⟨m, s, h1, h2, h3, h4, h5⟩
    · have hkn : ops.size ≤ k := by
        rcases Nat.lt_or_ge k ops.size with h | h
        · exact absurd (hall k h) (h3 k (Nat.le_refl _))
        · exact h
      have h6 := full _ s a w h1 (fun i hi => hall i (by omega)) h2
      have : cs.drop k = [] := List.drop_eq_nil_iff.2 (by omega)
      rw [this] at htail
      simp only [evOps, Option.some.injEq] at htail
      subst htail
      exact hK a w h6
    · have hmn : m = ops.size := by
        rcases Nat.lt_or_ge m ops.size with h | h
        · have := (h3 m h).1 (hall m h); omega
        · omega
      subst hmn
      rw [List.take_of_length_le (by rw [List.length_drop]; omega), htail] at h4
      cases h4
      exact hK a w h5
  have main : ∀ (fuel : Nat) (listed : Array Bool) (a : Act) (w : World), listed.size = ops.size → ((List.range ops.size).filter fun i => !listed.getD i false).length ≤ fuel →
      (∀ i, i < ops.size → listed.getD i false = true → ∀ j ∈ directs ops i, listed.getD j false = true) →
      ((∃ s, Sat k d eff (fun j => listed.getD j false = true) st0 s ∧ Rl S s a w ∧ ∀ i, k ≤ i → ¬ listed.getD i false = true) ∨
        (∃ m s, k ≤ m ∧ m ≤ ops.size ∧ (∀ i, i < ops.size → (listed.getD i false = true ↔ i < m)) ∧ evOps cf ((cs.drop k).take (m - k)) stk = some s ∧ Rl S s a w)) →
      wpAny P .any ops Q fuel listed a w := by
    intro fuel
    have rdy : ∀ (listed : Array Bool) (i : Nat), listed.size = ops.size → (i ∈ Region.ready .any ops listed ↔ i < ops.size ∧ ¬ listed.getD i false = true ∧ ∀ j ∈ directs ops i, listed.getD j false = true) := fun listed i hz => by
      rw [mem_ready]
      constructor
      · rintro ⟨h1, o, ho, h2⟩
        have hi := (Array.getElem?_eq_some_iff.1 ho).1
        refine ⟨hi, ?_, fun j hj => ?_⟩
        · rw [Array.getD_eq_getD_getElem?, Array.getElem?_eq_getElem (by omega)] at h1 ⊢
          simp at h1 ⊢; exact h1
        · unfold directs at hj
          rw [ho] at hj
          obtain ⟨e, he, hj2⟩ := List.mem_filterMap.1 hj
          split at hj2
          · rename_i hb; cases hj2; exact h2 e (by simpa using he) hb
          · cases hj2
      · rintro ⟨hi, h1, h2⟩
        refine ⟨?_, ops[i], Array.getElem?_eq_getElem hi, fun e he hb => h2 _ ?_⟩
        · rw [Array.getD_eq_getD_getElem?, Array.getElem?_eq_getElem (by omega)] at h1 ⊢
          simp at h1 ⊢; exact h1
        · unfold directs
          rw [Array.getElem?_eq_getElem hi]
          exact List.mem_filterMap.2 ⟨e, by simpa using he, by rw [if_pos hb]⟩
    have stuck : ∀ listed : Array Bool, listed.size = ops.size → Region.ready .any ops listed = [] → ∀ i, i < ops.size → listed.getD i false = true := fun listed hz hrd i => by
      induction i using Nat.strongRecOn with
      | _ i ih =>
        intro hi
        by_cases h : listed.getD i false = true
        · exact h
        · have : i ∈ Region.ready .any ops listed := (rdy listed i hz).2 ⟨hi, h, fun j hj => by
            have hlt := hback i hi j hj
            exact ih j hlt (by omega)⟩
          rw [hrd] at this; cases this
    induction fuel with
    | zero =>
      intro listed a w hz hc _ hph
      have hall : ∀ i, i < ops.size → listed.getD i false = true := fun i hi => by
        cases hb : listed.getD i false with
        | true => rfl
        | false =>
          have hmem : i ∈ (List.range ops.size).filter fun i => !listed.getD i false := List.mem_filter.2 ⟨List.mem_range.2 hi, by rw [hb]; rfl⟩
          have h0 : (List.range ops.size).filter (fun i => !listed.getD i false) = [] := List.eq_nil_of_length_eq_zero (by omega)
          rw [h0] at hmem; cases hmem
      refine ⟨?_, fin listed a w hall hph⟩
      cases hrl : Region.ready .any ops listed with
      | nil => rfl
      | cons i r =>
        have := (rdy listed i hz).1 (by rw [hrl]; simp)
        exact absurd (hall i this.1) this.2.1
    | succ fuel ih =>
      intro listed a w hz hc hcl hph
      refine ⟨fun h => fin listed a w (stuck listed hz h) hph, fun i hi => ?_⟩
      obtain ⟨hin, hnl, hdir⟩ := (rdy listed i hz).1 hi
      have hcl' : ∀ i, listed.getD i false = true → ∀ j ∈ directs ops i, listed.getD j false = true := fun i' h => by
        by_cases hlt : i' < ops.size
        · exact hcl i' hlt h
        · rw [Array.getD_eq_getD_getElem?, Array.getElem?_eq_none (by omega)] at h; cases h
      have hanc : ∀ x ∈ (ancs ops).getD i [], listed.getD x false = true := ancs_mem hcl' hin hdir
      have hz2 : (listed.setIfInBounds i true).size = ops.size := by simp [hz]
      have hcnt : ((List.range ops.size).filter fun j => !(listed.setIfInBounds i true).getD j false).length ≤ fuel := by
        have e1 : ((List.range ops.size).filter fun j => !(listed.setIfInBounds i true).getD j false) = ((List.range ops.size).filter fun j => !listed.getD j false).filter (· != i) := by
          rw [List.filter_filter]
          apply List.filter_congr
          intro j _
          have := setd listed i j (by omega)
          by_cases hji : j = i
          · subst hji
            have h1 : (listed.setIfInBounds j true).getD j false = true := this.2 (.inr rfl)
            rw [h1]; simp
          · rw [getD_set_ne false (Ne.symm hji)]; simp [hji]
        have hmem : i ∈ (List.range ops.size).filter fun j => !listed.getD j false := List.mem_filter.2 ⟨List.mem_range.2 hin, by simpa using hnl⟩
        rw [e1]
        have := List.length_filter_lt_length_iff_exists.2 (show ∃ x ∈ (List.range ops.size).filter (fun j => !listed.getD j false), ¬ ((x != i) = true) from ⟨i, hmem, by simp⟩)
        omega
      have hcl2 : ∀ i', i' < ops.size → (listed.setIfInBounds i true).getD i' false = true → ∀ j ∈ directs ops i', (listed.setIfInBounds i true).getD j false = true := fun i' hi' h j hj => by
        rw [setd listed i _ (by omega)] at h ⊢
        rcases h with h | rfl
        · exact .inl (hcl i' hi' h j hj)
        · exact .inl (hdir j hj)
      -- a tail's operation
      have tailop : ∀ m s, k ≤ m → m < ops.size → (∀ i, i < ops.size → (listed.getD i false = true ↔ i < m)) → evOps cf ((cs.drop k).take (m - k)) stk = some s → Rl S s a w → wpOp P ops Q i (wpAny P .any ops Q fuel (listed.setIfInBounds i true)) a w := fun m s hm hm2 hl hev hrl => by
        have him : i = m := by
          have h1 : ¬ i < m := fun h => hnl ((hl i hin).2 h)
          rcases htl i (by omega) with h | h
          · omega
          · rcases Nat.lt_or_ge m i with h2 | h2
            · have h3 := hanc m (by simpa using h m h2)
              have := (hl m hm2).1 h3; omega
            · omega
        subst him
        obtain ⟨c, s', h1, h2, h3⟩ := tailstep i hm hm2 s hev
        obtain ⟨o, ho, hcoo⟩ := hco i c h1
        refine wpOp_of ho (oper_step hcf hS hcoo h2 hrl fun a' w' hr' => ih _ a' w' hz2 hcnt hcl2 (.inr ⟨i + 1, s', by omega, by omega, fun j hj => ?_, h3, hr'⟩))
        rw [setd listed i j (by omega), hl j hj]; omega
      rcases hph with ⟨s, h1, h2, h3⟩ | ⟨m, s, h1, h2, h3, h4, h5⟩
      · by_cases hik : i < k
        · obtain ⟨c, si, hc1, hsi, _, hx, _, hloc⟩ := hop i hik
          obtain ⟨o, ho, hcoo⟩ := hco i c hc1
          obtain ⟨si', hsi', hsat'⟩ := hsat i (by omega)
          rw [hsi] at hsi'; cases hsi'
          have hsib : si.bx = st0.bx := hsat'.e5 fun j hj hji => Classical.byContradiction fun h => by
            have := hnb j hj h; omega
          have hstep := hloc s (fun x hxr => by
            by_cases hx : ∃ j, j < k ∧ d j = x
            · obtain ⟨j, hj, rfl⟩ := hx
              obtain ⟨q1, q2⟩ := hrd i c hik hc1 _ hxr j hj rfl
              rw [h1.e1 j hj (hanc j q2), hsat'.e1 j hj q1]
            · have hx' : ∀ j, j < k → d j ≠ x := fun j hj e => hx ⟨j, hj, e⟩
              rw [h1.e2 x fun j hj _ => hx' j hj, hsat'.e2 x fun j hj _ => hx' j hj]) (by
              rw [hsib]
              by_cases hx : ∃ j, j < k ∧ listed.getD j false = true ∧ (eff j).nb ≠ []
              · obtain ⟨j, hj, hj1, hj2⟩ := hx
                exact ⟨_, h1.e6 j hj hj1 hj2⟩
              · exact ⟨[], by rw [List.append_nil]; exact h1.e5 fun j hj hj1 => Classical.byContradiction fun h => hx ⟨j, hj, hj1, h⟩⟩) (fun hlast => by
              rw [hsib]
              refine h1.e5 fun j hj hj1 => Classical.byContradiction fun h => ?_
              have := hnb j hj h
              exact hnl ((show j = i by omega) ▸ hj1))
          have hnew := h1.step hdd hik hnl hnb fun j hj hE L hL => halx i hik j hj (fun j => listed.getD j false = true) hnl hE (ancs_mem hcl' (by omega) (hcl' j hE)) L hL
          refine wpOp_of ho (oper_step hcf hS hcoo (stepP_G hstep) h2 fun a' w' hr' => ih _ a' w' hz2 hcnt hcl2 (.inl ⟨_, ?_, hr', fun j hj hlj => ?_⟩))
          · have e : (fun j => (listed.setIfInBounds i true).getD j false = true) = fun j => listed.getD j false = true ∨ j = i := by
              funext j; exact propext (setd listed i j (by omega))
            rw [e]; exact hnew
          · rcases (setd listed i j (by omega)).1 hlj with h | h
            · exact h3 j hj h
            · omega
        · -- the first of the tail
          have hall : ∀ j, j < i → listed.getD j false = true := fun j hj => by
            rcases htl i (by omega) with h | h
            · omega
            · exact hanc j (by simpa using h j hj)
          have hki : i = k := by
            rcases Nat.lt_or_ge k i with h | h
            · exact absurd (hall k h) (h3 k (Nat.le_refl _))
            · omega
          subst hki
          exact tailop i stk (Nat.le_refl _) hin (fun j hj => ⟨fun h => by
            rcases Nat.lt_or_ge j i with h' | h'
            · exact h'
            · exact absurd h (h3 j h'), fun h => hall j h⟩) (by simp [evOps]) (full _ s a w h1 hall h2)
      · have hmn : m < ops.size := by
          rcases Nat.lt_or_ge m ops.size with h | h
          · exact h
          · exact absurd ((h3 i hin).2 (by omega)) hnl
        exact tailop m s h1 hmn h3 h4 h5
  refine main ops.size _ a w (by simp) (Nat.le_trans (List.length_filter_le _ _) (by simp)) (fun i hi h => by simp [hi] at h) (.inl ⟨st0, ?_, hr, fun i hi h => ?_⟩)
  · have h9 := Sat.start (k := k) (d := d) (eff := eff) hal
    have e : (fun j => (Array.replicate ops.size false).getD j false = true) = fun _ => False := by
      funext j
      apply propext
      by_cases hj : j < ops.size <;> simp [hj]
    rw [e]; exact h9
  · by_cases hj : i < ops.size <;> simp [hj] at h
end
end Nun

/- Code, and functions. -/
namespace Nun
open Go Go.RowKit
def baseOf (o : Oper) : Option Nat := match o.op with
  | .call { callee := .builtin .append, args, .. } => match args.toList with
    | .tmp t :: _ => some t
    | _ => none
  | _ => none
def coRegion (P : Program) (nt : Nat) (ops : Array Oper) (draw : Bool) : Option (List COper × List COper) :=
  (ops.toList.mapM (coOper P nt ops (ops.toList.filterMap baseOf))).bind fun cs =>
    if draw then ((List.range (cs.length + 1)).find? (drawOk ops cs)).map fun k => (cs.take k, cs.drop k) else some ([], cs)
/-- 'lv': for each loop, in order, the slots that live at its head. -/
def coCode (P : Program) (nt : Nat) : List (List Nat) → Code → Option (CCode × List (List Nat))
  | lv, .skip => some (.skip, lv)
  | lv, .region _ ops draw => (coRegion P nt ops draw).map fun q => (.reg q.1 q.2, lv)
  | lv, .seq a b => (coCode P nt lv a).bind fun q => (coCode P nt q.2 b).map fun r => (.seq q.1 r.1, r.2)
  | lv, .cond c a b => (coX c).bind fun x => (coCode P nt lv a).bind fun q => (coCode P nt q.2 b).map fun r => (.cond x q.1 r.1, r.2)
  | lv, .block id b => (coCode P nt lv b).map fun q => (.block id q.1, q.2)
  | l :: lv, .loop b => (coCode P nt lv b).map fun q => (.loop l q.1, q.2)
  | lv, .exit id => some (.exit id, lv)
  | lv, .ret => some (.ret, lv)
  | _, _ => none
def coRes (P : Program) : ResultVar → Option (Sum Nat (Nat × Bool × Nat))
  | .tmp t => some (.inl t)
  | .cell t ty => (isAggT P ty).bind fun g => (szOf P ty).bind fun n => if g = true ∨ n = 1 then some (.inr (t, g, n)) else none
def coFun (P : Program) (lv : List (List Nat)) (f : FuncId) : Option CFun := match P.funcs[f]? with
  | some fn => match fn.body with
    | some b => if fn.name != "runtime.NumGoroutine" then (coCode P fn.ntmps lv b).bind fun q => (fn.results.toList.mapM (coRes P)).map fun rs => ⟨fn.ntmps, rs, q.1⟩ else none
    | none => none
  | none => none
def Out.ex : Out → Exit
  | .normal => .normal
  | .exit id => .exit id
  | .ret => .ret
section
variable {P : Program} {w w' : World} {Fr Fr' : Nat → Nat} {β β' : List Nat} {base nt : Nat} {M : Nat → Prop} {w0 : World} {F0 : Nat → Nat} {st st' : St} {a a' : Act} {cf : Callee} {Γ : Glob} {S : S0}
mutual
theorem low_rd {nb : Nat} : ∀ (p : PV) (v : Value), p.low nb = true → Rd w Fr β p v → Rd w Fr (β.take nb) p v
  | .unk, _, _, _ => by simp [Rd]
  | .flat u, v, _, k => by simpa [Rd] using k
  | .slc n cs, v, h, k => by
    simp only [Rd] at k ⊢
    obtain ⟨b, cap, h1, h2, h3⟩ := k
    refine ⟨b, cap, h1, h2, h3.imp id ?_⟩
    rintro ⟨g, o, vs, ha, hr, hs, ho⟩
    exact ⟨g, o, vs, ha, hr, lows_rds cs vs h hs, ho⟩
  | .agg cs, v, h, k => by
    simp only [Rd] at k ⊢
    obtain ⟨vs, h1, hs, ho⟩ := k
    exact ⟨vs, h1, lows_rds cs vs h hs, ho⟩
  | .tup cs, v, h, k => by
    simp only [Rd] at k ⊢
    obtain ⟨vs, h1, hs⟩ := k
    exact ⟨vs, h1, lows_rds cs vs h hs⟩
  | .ptr b o, v, h, k => by
    simp only [Rd] at k ⊢
    obtain ⟨g, h1, h2⟩ := k
    have : b < nb := by simpa [PV.low] using h
    exact ⟨g, by rw [List.getElem?_take_of_lt this]; exact h1, h2⟩
  | .elt cs, v, h, k => by
    simp only [Rd] at k ⊢
    obtain ⟨g, o, vs, h1, hr, hs, ho⟩ := k
    exact ⟨g, o, vs, h1, hr, lows_rds cs vs h hs, ho⟩
  | .clo f cs, v, h, k => by
    simp only [Rd] at k ⊢
    obtain ⟨vs, h1, hs⟩ := k
    exact ⟨vs, h1, lows_rds cs vs h hs⟩
theorem lows_rds {nb : Nat} : ∀ (ps : List PV) (vs : List Value), lows nb ps = true → Rds w Fr β ps vs → Rds w Fr (β.take nb) ps vs
  | [], vs, _, k => by simpa [Rds] using k
  | p :: ps, vs, h, k => by
    simp only [lows, Bool.and_eq_true] at h
    simp only [Rds] at k ⊢
    obtain ⟨v, r, h1, h2, h3⟩ := k
    exact ⟨v, r, h1, low_rd p v h.1 h2, lows_rds ps r h.2 h3⟩
end
/-- Slots, boxes and names forgotten. -/
theorem Rel.cut (R : Rel base M w0 F0 nt st a w Fr β) {nb : Nat} (hsl : ∀ i, look st'.sl i = .unk ∨ (look st'.sl i = look st.sl i ∧ (look st.sl i).low nb = true)) (hbx : st'.bx = st.bx.take nb) (hlow : ∀ cs ∈ st.bx.take nb, lows nb cs = true)
    (how : ∀ L ∈ st'.ow, L ∈ st.ow ∧ (∀ i, L = .slot i → look st'.sl i = look st.sl i) ∧ (∀ b j, L = .cell b j → b < nb)) (hal : st'.al = []) : Rel base M w0 F0 nt st' a w Fr (β.take nb) := by
  have hval : ∀ L ∈ st'.ow, ∀ v, valAt a w (β.take nb) L = some v → valAt a w β L = some v := fun L hL v h => by
    cases L with
    | slot i => exact h
    | cell b j =>
      simp only [valAt] at h ⊢
      rwa [List.getElem?_take_of_lt ((how _ hL).2.2 b j rfl)] at h
  have hval2 : ∀ L ∈ st'.ow, ∀ v, valAt a w β L = some v → valAt a w (β.take nb) L = some v := fun L hL v h => by
    cases L with
    | slot i => exact h
    | cell b j =>
      simp only [valAt] at h ⊢
      rwa [List.getElem?_take_of_lt ((how _ hL).2.2 b j rfl)]
  have hpv : ∀ L ∈ st'.ow, ∀ p, pvAt st L = some p → pvAt st' L = some p := fun L hL p h => by
    cases L with
    | slot i => simp only [pvAt] at h ⊢; rw [(how _ hL).2.1 i rfl]; exact h
    | cell b j =>
      simp only [pvAt] at h ⊢
      rwa [hbx, List.getElem?_take_of_lt ((how _ hL).2.2 b j rfl)]
  refine ⟨fun i => ?_, R.nt, R.df, ⟨by rw [hbx, List.length_take, List.length_take, R.bx.1], fun b cs hcs => ?_⟩, R.nd.sublist (List.take_sublist _ _), fun L hL => ?_, fun L hL L' hL' hne v v' g hv hv' => R.sep L (how L hL).1 L' (how L' hL').1 hne v v' g (hval L hL v hv) (hval L' hL' v' hv'), fun L hL v g hv hg hm => R.out L (how L hL).1 v g (hval L hL v hv) hg (List.mem_of_mem_take hm), (fun q hq => by rw [hal] at hq; cases hq), fun g hg => ?_, R.old, R.ge, R.os, R.tape, R.output⟩
  · rcases hsl i with h | ⟨h1, h2⟩
    · rw [h]; simp [Rd]
    · rw [h1]; exact low_rd _ _ h2 (R.sl i)
  · rw [hbx] at hcs
    have hb : b < nb := by
      have := (List.getElem?_eq_some_iff.1 hcs).1
      rw [List.length_take] at this; omega
    have hl := hlow cs (List.mem_of_getElem? hcs)
    rw [List.getElem?_take_of_lt hb] at hcs
    obtain ⟨g, vs, e, h1, h2, h3, h4, h5⟩ := R.bx.2 b cs hcs
    exact ⟨g, vs, e, by rw [List.getElem?_take_of_lt hb]; exact h1, h2, lows_rds cs vs hl h3, h4, h5⟩
  · obtain ⟨v, p, k1, k2, k3⟩ := R.own L (how L hL).1
    exact ⟨v, p, hval2 L hL v k1, hpv L hL p k2, k3⟩
  · refine R.may g (hg.imp List.mem_of_mem_take ?_)
    rintro ⟨L, hL, v, hv, hg⟩
    exact ⟨L, (how L hL).1, v, hval L hL v hv, hg⟩
/-- The same where no box is forgotten. -/
theorem Rel.cut0 (R : Rel base M w0 F0 nt st a w Fr β) (hsl : ∀ i, look st'.sl i = .unk ∨ look st'.sl i = look st.sl i) (hbx : st'.bx = st.bx) (how : ∀ L ∈ st'.ow, L ∈ st.ow ∧ ∀ i, L = .slot i → look st'.sl i = look st.sl i) (hal : st'.al = []) : Rel base M w0 F0 nt st' a w Fr β := by
  have hpv : ∀ L ∈ st'.ow, pvAt st' L = pvAt st L := fun L hL => by
    cases L with
    | slot i => simp only [pvAt]; rw [(how _ hL).2 i rfl]
    | cell b j => simp only [pvAt, hbx]
  exact ⟨fun i => by
    rcases hsl i with h | h
    · rw [h]; simp [Rd]
    · rw [h]; exact R.sl i, R.nt, R.df, by rw [hbx]; exact R.bx, R.nd, fun L hL => by rw [hpv L hL]; exact R.own L (how L hL).1, fun L hL L' hL' => R.sep L (how L hL).1 L' (how L' hL').1, fun L hL => R.out L (how L hL).1, (fun q hq => by rw [hal] at hq; cases hq),
    fun g hg => R.may g (hg.imp id fun ⟨L, k1, k2⟩ => ⟨L, (how L k1).1, k2⟩), R.old, R.ge, R.os, R.tape, R.output⟩
theorem look_live (sl : List (Nat × PV)) : ∀ (l : List Nat) (i : Nat), look (l.map fun j => (j, look sl j)) i = if i ∈ l then look sl i else .unk
  | [], i => rfl
  | j :: l, i => by
    rw [List.map_cons, look_cons, look_live sl l i]
    by_cases h : j = i
    · subst h; simp
    · simp [h, Ne.symm h]
theorem le_len {S : S0} (h : Le S.sw S.sF S.sβ w Fr β) : S.sβ.length ≤ β.length := by
  rcases Nat.lt_or_ge β.length S.sβ.length with h1 | h1
  · have := h.box β.length _ (List.getElem?_eq_getElem h1)
    rw [List.getElem?_eq_none (Nat.le_refl _)] at this; cases this
  · exact h1
theorem Rl.only (h : Rl S st a w) (live : List Nat) {nb : Nat} (hnb : S.sβ.length ≤ nb) : Rl S (st.only live nb) a w := by
  obtain ⟨Fr, β, R, hl⟩ := h
  have hsl : ∀ i, look (st.only live nb).sl i = if i ∈ live then look st.sl i else .unk := fun i => look_live st.sl live i
  have howm : ∀ L, L ∈ (st.only live nb).ow → L ∈ st.ow ∧ (∀ i, L = .slot i → i ∈ live) ∧ ∀ b j, L = .cell b j → b < (trim nb (live.map (look st.sl)) st.bx).length := fun L hL => by
    simp only [St.only, List.mem_filter] at hL
    refine ⟨hL.1, fun i e => ?_, fun b j e => ?_⟩
    · subst e; simpa using hL.2
    · subst e; simpa using hL.2
  by_cases h1 : (trim nb (live.map (look st.sl)) st.bx) = st.bx
  · refine ⟨Fr, β, R.cut0 (fun i => ?_) h1 (fun L hL => ⟨(howm L hL).1, fun i e => ?_⟩) rfl, hl⟩
    · rw [hsl]; split
      · exact .inr rfl
      · exact .inl rfl
    · rw [hsl, if_pos ((howm L hL).2.1 i e)]
  · have h2 : lows nb (live.map (look st.sl)) = true ∧ (st.bx.take nb).all (lows nb) = true ∧ trim nb (live.map (look st.sl)) st.bx = st.bx.take nb := by
      unfold trim at h1 ⊢
      split at h1
      · exact absurd rfl h1
      · rename_i hne
        split at h1
        · rename_i hc
          rw [if_neg hne, if_pos hc]
          simp only [Bool.and_eq_true] at hc
          exact ⟨hc.1, hc.2, rfl⟩
        · exact absurd rfl h1
    obtain ⟨k1, k2, k3⟩ := h2
    have lowat : ∀ (l : List Nat), lows nb (l.map (look st.sl)) = true → ∀ i ∈ l, (look st.sl i).low nb = true := by
      intro l
      induction l with
      | nil => intro _ i hi; cases hi
      | cons j l ih =>
        intro h i hi
        simp only [List.map_cons, lows, Bool.and_eq_true] at h
        rcases List.mem_cons.1 hi with rfl | hi
        · exact h.1
        · exact ih h.2 i hi
    refine ⟨Fr, β.take nb, R.cut (nb := nb) (fun i => ?_) k3 (fun cs hcs => List.all_eq_true.1 k2 cs hcs) (fun L hL => ⟨(howm L hL).1, fun i e => ?_, fun b j e => ?_⟩) rfl, ⟨hl.size, hl.fr, hl.cell, fun i g hg => ?_⟩⟩
    · rw [hsl]; split
      · rename_i hi; exact .inr ⟨rfl, lowat live k1 i hi⟩
      · exact .inl rfl
    · rw [hsl, if_pos ((howm L hL).2.1 i e)]
    · have := (howm L hL).2.2 b j e
      rw [k3, List.length_take] at this; omega
    · have : i < nb := Nat.lt_of_lt_of_le (List.getElem?_eq_some_iff.1 hg).1 hnb
      rw [List.getElem?_take_of_lt this]; exact hl.box i g hg
theorem mapM_get {α γ : Type} {f : α → Option γ} : ∀ {l : List α} {r : List γ}, l.mapM f = some r → r.length = l.length ∧ ∀ (j : Nat) (c : γ), r[j]? = some c → ∃ o, l[j]? = some o ∧ f o = some c
  | [], r, h => by simp at h; subst h; exact ⟨rfl, fun j c hj => by simp at hj⟩
  | x :: l, r, h => by
    rw [List.mapM_cons] at h
    obtain ⟨y, hy, h⟩ := Option.bind_eq_some_iff.1 h
    obtain ⟨s, hs, h⟩ := Option.bind_eq_some_iff.1 h
    cases h
    obtain ⟨h1, h2⟩ := mapM_get hs
    refine ⟨by simp [h1], fun j c hj => ?_⟩
    cases j with
    | zero => simp at hj; subst hj; exact ⟨x, rfl, hy⟩
    | succ j => exact h2 j c (by simpa using hj)
theorem region_sound (hm : P.follows .mixedOrders = true) (hcf : CallOk P Γ cf) (hS : Good Γ S) {id : Nat} {ops : Array Oper} {draw : Bool} {q : List COper × List COper} (hc : coRegion P S.nt ops draw = some q) {stk stF : St} (h1 : evPre cf q.1 st = some stk) (h2 : evOps cf q.2 stk = some stF)
    (hal : st.al = []) (hr : Rl S st a w) {Q : Exit → Act → World → Prop} (hK : ∀ a' w', Rl S stF a' w' → Q .normal a' w') : (Code.region id ops draw).wp P Q a w := by
  unfold coRegion at hc
  obtain ⟨cs, hcs, hc⟩ := Option.bind_eq_some_iff.1 hc
  obtain ⟨hlen, hget⟩ := mapM_get hcs
  have hco : ∀ (j : Nat) (c : COper), cs[j]? = some c → ∃ o, ops[j]? = some o ∧ coOper P S.nt ops (ops.toList.filterMap baseOf) o = some c := fun j c hj => by
    obtain ⟨o, k1, k2⟩ := hget j c hj
    exact ⟨o, by rw [← Array.getElem?_toList]; exact k1, k2⟩
  cases draw with
  | false =>
    simp only [Bool.false_eq_true, if_false, Option.some.injEq] at hc
    subst hc
    simp only [evPre, Option.some.injEq] at h1
    subst h1
    refine wp_region ?_
    have := seq_run (rest := []) hcf hS (Q := Q) cs 0 st a w (fun j c hj => by rw [Nat.zero_add]; exact hco j c hj) h2 hr (fun a' w' hr' => by unfold wpOps; exact hK a' w' hr')
    rw [List.append_nil, hlen, Array.length_toList, ← List.range_eq_range'] at this
    exact this
  | true =>
    simp only [if_true] at hc
    obtain ⟨k, hk, rfl⟩ := Option.map_eq_some_iff.1 hc
    have hok := List.find?_some hk
    refine wp_region_any hm ?_
    have hr' : Rl S st a { w with drawn := w.drawn + 1 } := by
      obtain ⟨Fr, β, R, hl⟩ := hr
      have hb : Below w.heap.size w { w with drawn := w.drawn + 1 } := ⟨rfl, rfl, rfl, Nat.le_refl _, fun _ _ => rfl⟩
      obtain ⟨R', hl'⟩ := R.grow hb (Fr' := Fr) (fun _ _ => rfl)
      exact ⟨Fr, β, R', hl.trans hl'⟩
    exact draw_run hcf hS hok (by rw [hlen, Array.length_toList]) hco hal h1 h2 hr' hK
theorem evLoop_al {body : St → Option (Out × St)} {live : List Nat} {nb : Nat} (hb : ∀ st o st', body st = some (o, st') → st.al = [] → st'.al = []) : ∀ (n : Nat) (st : St) (o : Out) (st' : St), evLoop body live nb n st = some (o, st') → st'.al = []
  | 0, _, _, _, h => by cases h
  | n + 1, st, o, st', h => by
    simp only [evLoop] at h
    obtain ⟨⟨o1, s1⟩, h1, h2⟩ := Option.bind_eq_some_iff.1 h
    have ha := hb _ _ _ h1 rfl
    cases o1 with
    | normal => exact evLoop_al hb n s1 o st' h2
    | exit id => cases h2; exact ha
    | ret => cases h2; exact ha
theorem evC_al {n : Nat} : ∀ (c : CCode) (st : St) (o : Out) (st' : St), evC cf n c st = some (o, st') → st.al = [] → st'.al = []
  | .skip, st, o, st', h, ha => by cases h; exact ha
  | .reg pre tail, st, o, st', h, ha => by
    simp only [evC] at h
    obtain ⟨s, _, h⟩ := Option.map_eq_some_iff.1 h
    cases h; rfl
  | .seq a b, st, o, st', h, ha => by
    simp only [evC] at h
    obtain ⟨⟨o1, s1⟩, h1, h2⟩ := Option.bind_eq_some_iff.1 h
    have h3 := evC_al a st o1 s1 h1 ha
    cases o1 with
    | normal => exact evC_al b s1 o st' h2 h3
    | exit id => cases h2; exact h3
    | ret => cases h2; exact h3
  | .cond x a b, st, o, st', h, ha => by
    simp only [evC] at h
    split at h
    · split at h
      · exact evC_al a st o st' h ha
      · exact evC_al b st o st' h ha
    · cases h
  | .block id b, st, o, st', h, ha => by
    simp only [evC] at h
    obtain ⟨⟨o1, s1⟩, h1, h2⟩ := Option.map_eq_some_iff.1 h
    have h3 := evC_al b st o1 s1 h1 ha
    cases o1 with
    | normal => cases h2; exact h3
    | exit j => 
      dsimp only at h2
      split at h2 <;> (cases h2; exact h3)
    | ret => cases h2; exact h3
  | .loop live b, st, o, st', h, _ => by
    simp only [evC] at h
    exact evLoop_al (fun st o st' h ha => evC_al b st o st' h ha) n st o st' h
  | .exit id, st, o, st', h, ha => by cases h; exact ha
  | .ret, st, o, st', h, ha => by cases h; exact ha
theorem code_sound (hm : P.follows .mixedOrders = true) (hcf : CallOk P Γ cf) (hS : Good Γ S) {n : Nat} : ∀ (code : Code) (lv : List (List Nat)) (c : CCode) (lv' : List (List Nat)), coCode P S.nt lv code = some (c, lv') → ∀ (st st' : St) (o : Out) (a : Act) (w : World) (Q : Exit → Act → World → Prop),
    evC cf n c st = some (o, st') → st.al = [] → Rl S st a w → (∀ a' w', Rl S st' a' w' → Q o.ex a' w') → code.wp P Q a w := by
  intro code
  induction code with
  | skip =>
    intro lv c lv' hc st st' o a w Q he _ hr hK
    simp only [coCode] at hc; cases hc
    cases he
    exact wp_skip (hK a w hr)
  | region id ops draw =>
    intro lv c lv' hc st st' o a w Q he hal hr hK
    simp only [coCode] at hc
    obtain ⟨q, hq, hc⟩ := Option.map_eq_some_iff.1 hc
    cases hc
    simp only [evC] at he
    obtain ⟨sF, h1, h2⟩ := Option.map_eq_some_iff.1 he
    obtain ⟨sk, h3, h4⟩ := Option.bind_eq_some_iff.1 h1
    cases h2
    refine region_sound hm hcf hS hq h3 h4 hal hr fun a' w' hr' => hK a' w' ?_
    exact hr'.congr (fun _ => rfl) (fun _ h => h) (fun _ h => by cases h) rfl
  | seq x y ihx ihy =>
    intro lv c lv' hc st st' o a w Q he hal hr hK
    simp only [coCode] at hc
    obtain ⟨⟨c1, l1⟩, h1, hc⟩ := Option.bind_eq_some_iff.1 hc
    obtain ⟨⟨c2, l2⟩, h2, hc⟩ := Option.map_eq_some_iff.1 hc
    cases hc
    simp only [evC] at he
    obtain ⟨⟨o1, s1⟩, h3, h4⟩ := Option.bind_eq_some_iff.1 he
    refine wp_seq (ihx lv c1 l1 h1 st s1 o1 a w _ h3 hal hr fun a' w' hr' => ?_)
    have ha1 := evC_al c1 st o1 s1 h3 hal
    cases o1 with
    | normal => exact ihy l1 c2 l2 h2 s1 st' o a' w' Q h4 ha1 hr' hK
    | exit id => cases h4; exact hK a' w' hr'
    | ret => cases h4; exact hK a' w' hr'
  | cond x a1 b1 iha ihb =>
    intro lv c lv' hc st st' o a w Q he hal hr hK
    simp only [coCode] at hc
    obtain ⟨y, hy, hc⟩ := Option.bind_eq_some_iff.1 hc
    obtain ⟨⟨c1, l1⟩, h1, hc⟩ := Option.bind_eq_some_iff.1 hc
    obtain ⟨⟨c2, l2⟩, h2, hc⟩ := Option.map_eq_some_iff.1 hc
    cases hc
    simp only [evC] at he
    split at he
    · rename_i t e1
      obtain ⟨Fr, β, R, hl⟩ := hr
      have hx := coX_rd R.sl hy
      rw [e1] at hx
      obtain ⟨hx, _⟩ := rd_flat hx
      refine wp_cond hx ?_
      cases t with
      | true =>
        simp only [if_true] at he ⊢
        exact iha lv c1 l1 h1 st st' o a w Q he hal ⟨Fr, β, R, hl⟩ hK
      | false =>
        simp only [Bool.false_eq_true, if_false] at he ⊢
        exact ihb l1 c2 l2 h2 st st' o a w Q he hal ⟨Fr, β, R, hl⟩ hK
    · cases he
  | block id b ih =>
    intro lv c lv' hc st st' o a w Q he hal hr hK
    simp only [coCode] at hc
    obtain ⟨⟨c1, l1⟩, h1, hc⟩ := Option.map_eq_some_iff.1 hc
    cases hc
    simp only [evC] at he
    obtain ⟨⟨o1, s1⟩, h3, h4⟩ := Option.map_eq_some_iff.1 he
    refine wp_block (ih lv c1 l1 h1 st s1 o1 a w _ h3 hal hr fun a' w' hr' => ?_)
    cases o1 with
    | normal => cases h4; exact hK a' w' hr'
    | ret => cases h4; exact hK a' w' hr'
    | exit j =>
      dsimp only at h4
      simp only [Out.ex, Exit.inBlock]
      split at h4
      · rename_i e; cases h4; rw [if_pos e]; exact hK a' w' hr'
      · rename_i e; cases h4; rw [if_neg e]; exact hK a' w' hr'
  | loop b ih =>
    intro lv c lv' hc st st' o a w Q he hal hr hK
    cases lv with
    | nil => simp [coCode] at hc
    | cons l lv =>
      simp only [coCode] at hc
      obtain ⟨⟨c1, l1⟩, h1, hc⟩ := Option.map_eq_some_iff.1 hc
      cases hc
      simp only [evC] at he
      have hnb : S.sβ.length ≤ st.bx.length := by
        obtain ⟨Fr, β, R, hl⟩ := hr
        rw [R.bx.1]; exact le_len hl
      intro bf k cs
      have key : ∀ (m : Nat) (s : St) (a : Act) (w : World), evLoop (evC cf n c1) l st.bx.length m s = some (o, st') → Rl S s a w → ∃ e a' w', Q e a' w' ∧ Arrives P (lone (bf.at a (.code b :: .inLoop b :: k)) cs w) bf k cs e a' w' := by
        intro m
        induction m with
        | zero => intro s a w h; cases h
        | succ m ihm =>
          intro s a w h hr
          simp only [evLoop] at h
          obtain ⟨⟨o1, s1⟩, h3, h4⟩ := Option.bind_eq_some_iff.1 h
          obtain ⟨e, a1, w1, hq, harr⟩ := ih lv c1 l1 h1 (s.only l st.bx.length) s1 o1 a w (fun e a' w' => e = o1.ex ∧ Rl S s1 a' w') h3 rfl (hr.only l hnb) (fun a' w' hr' => ⟨rfl, hr'⟩) bf (.inLoop b :: k) cs
          obtain ⟨rfl, hr1⟩ := hq
          cases o1 with
          | normal =>
            obtain ⟨e2, a2, w2, hq2, harr2⟩ := ihm s1 a1 w1 h4 hr1
            exact ⟨e2, a2, w2, hq2, .of_steps (Steps.trans harr (.one step_inLoop)) harr2⟩
          | exit id => cases h4; exact ⟨_, a1, w1, hK a1 w1 hr1, .pass (x := .inLoop b) rfl (fun _ _ => .inl (by simp [Out.ex])) harr⟩
          | ret => cases h4; exact ⟨_, a1, w1, hK a1 w1 hr1, .pass (x := .inLoop b) rfl (fun _ _ => .inl (by simp [Out.ex])) harr⟩
      obtain ⟨e, a', w', hq, harr⟩ := key n st a w he hr
      exact ⟨e, a', w', hq, .of_steps (.one step_loop) harr⟩
  | exit id =>
    intro lv c lv' hc st st' o a w Q he _ hr hK
    simp only [coCode] at hc; cases hc
    cases he
    exact wp_exit (hK a w hr)
  | ret =>
    intro lv c lv' hc st st' o a w Q he _ hr hK
    simp only [coCode] at hc; cases hc
    cases he
    exact wp_ret (hK a w hr)
  | rangeFunc f ps as b _ _ => intro lv c lv' hc; simp [coCode] at hc
  | scope b _ => intro lv c lv' hc; simp [coCode] at hc
  | label l => intro lv c lv' hc; simp [coCode] at hc
  | goto l => intro lv c lv' hc; simp [coCode] at hc
  | refuse s => intro lv c lv' hc; simp [coCode] at hc
end
end Nun

/- Functions: what the evaluator gives, the call returns. -/
namespace Nun
open Go Go.RowKit
section
variable {P : Program} {w w' : World} {Fr Fr' : Nat → Nat} {β β' : List Nat} {base nt : Nat} {M : Nat → Prop} {w0 : World} {F0 : Nat → Nat} {st st' : St} {a a' : Act} {cf : Callee} {Γ : Glob} {S : S0}
theorem look_init : ∀ (ps : List PV) (k i : Nat), look (initSl k ps) i = if k ≤ i then ps.getD (i - k) .unk else .unk
  | [], k, i => by simp [initSl, look]
  | p :: ps, k, i => by
    simp only [initSl, look_cons]
    rw [look_init ps (k + 1) i]
    by_cases h : k = i
    · subst h; simp
    · by_cases hlt : k ≤ i
      · rw [if_neg h, if_pos hlt, if_pos (by omega)]
        have : i - k = (i - (k + 1)) + 1 := by omega
        rw [this]; rfl
      · rw [if_neg h, if_neg hlt, if_neg (by omega)]
def resSem (a : Act) : ResultVar → Sem Value
  | .tmp t => pure (a.tmps.getD t undef)
  | .cell x t => do loadVar t (← asAddr (a.tmps.getD x undef))
theorem results_eq (fn : Func) (a : Act) : results fn a.tmps = (do
    let vs ← fn.results.mapM (resSem a)
    pure (if h : vs.size = 1 then vs[0] else .tuple vs)) := by
  unfold results
  congr 2
theorem res_run {rs : List ResultVar} {cs : List (Sum Nat (Nat × Bool × Nat))} (R : Rel base M w0 F0 nt st a w Fr β) : ∀ {rs : List ResultVar} {cs : List (Sum Nat (Nat × Bool × Nat))} {vs : List PV}, rs.mapM (coRes P) = some cs → cs.mapM (resV st) = some vs →
    ∃ us, (rs.mapM (resSem a)).run P w = .ok us w ∧ Rds w Fr β vs us
  | [], cs, vs, h1, h2 => by
    simp at h1; subst h1
    simp at h2; subst h2
    exact ⟨[], rfl, by simp [Rds]⟩
  | r :: rs, cs, vs, h1, h2 => by
    rw [List.mapM_cons] at h1
    obtain ⟨c, hc, h1⟩ := Option.bind_eq_some_iff.1 h1
    obtain ⟨cs', hcs, h1⟩ := Option.bind_eq_some_iff.1 h1
    cases h1
    rw [List.mapM_cons] at h2
    obtain ⟨p, hp, h2⟩ := Option.bind_eq_some_iff.1 h2
    obtain ⟨ps, hps, h2⟩ := Option.bind_eq_some_iff.1 h2
    cases h2
    obtain ⟨us, k1, k2⟩ := res_run (rs := rs) (cs := cs') R hcs hps
    have one : ∃ u, (resSem a r).run P w = .ok u w ∧ Rd w Fr β p u := by
      cases r with
      | tmp t =>
        simp only [coRes, Option.some.injEq] at hc; subst hc
        simp only [resV, Option.some.injEq] at hp; subst hp
        exact ⟨_, rfl, R.sl t⟩
      | cell x ty =>
        simp only [coRes] at hc
        obtain ⟨g, hg, hc⟩ := Option.bind_eq_some_iff.1 hc
        obtain ⟨n, hn, hc⟩ := Option.bind_eq_some_iff.1 hc
        split at hc
        · rename_i hgn
          cases hc
          have hx := R.sl x
          simp only [resV] at hp
          split at hp
          · rename_i b o e1
            rw [e1] at hx
            simp only [Rd] at hx
            obtain ⟨gb, hgb, hx⟩ := hx
            split at hp
            · rename_i cells hcells
              split at hp
              · rename_i hle
                obtain ⟨g', vs, e, b1, b2, b3, b4, b5⟩ := R.bx.2 b cells hcells
                rw [hgb] at b1; cases b1
                have hvl := b3.length
                have hcell : ∀ j v, ((vs.drop o).take n)[j]? = some v → w.cell? ⟨gb, o + j, none⟩ = some v := fun j v hj => by
                  rw [List.getElem?_take] at hj
                  split at hj
                  · rw [List.getElem?_drop] at hj
                    rw [cell_of_row _ _ _ _ _ _ b2]; simpa using hj
                  · cases hj
                have hrun := run_loadVar hg hn (by rw [List.length_take, List.length_drop]; omega) hcell hgn
                refine ⟨if g then .agg ((vs.drop o).take n).toArray else ((vs.drop o).take n).getD 0 undef, ?_, ?_⟩
                · simp only [resSem, hx, asAddr, Sem.run_bind, Sem.run_pure, Result.andThen_ok]; exact hrun
                · cases g with
                  | true =>
                    simp only [if_true, Option.some.injEq] at hp ⊢
                    subst hp
                    simp only [Rd]; exact ⟨_, rfl, (b3.drop o).take n, (b4.drop o).take n⟩
                  | false =>
                    simp only [Bool.false_eq_true, if_false] at hp ⊢
                    have hn1 : n = 1 := hgn.resolve_left (by simp)
                    obtain ⟨v, q1, q2⟩ := get_take (b3.drop o) hn1 (p := p) (by rw [List.getElem?_drop, Nat.add_zero]; exact hp)
                    rw [q1]; exact q2
              · cases hp
            · cases hp
          · cases hp
        · cases hc
    obtain ⟨u, q1, q2⟩ := one
    refine ⟨u :: us, ?_, by simp only [Rds]; exact ⟨u, us, rfl, q2, k2⟩⟩
    rw [List.mapM_cons]
    simp only [Sem.run_bind, q1, Result.andThen_ok, k1]
    rfl
theorem tup_rd {vs : List PV} {us : List Value} (h : Rds w Fr β vs us) : Rd w Fr β (tupOf vs) (if h : us.toArray.size = 1 then us.toArray[0] else .tuple us.toArray) := by
  match vs, us, h with
  | [], us, h => simp only [Rds] at h; subst h; simp [tupOf, Rd, Rds]
  | [p], us, h =>
    simp only [Rds] at h
    obtain ⟨v, r, rfl, h1, rfl⟩ := h
    simpa [tupOf] using h1
  | p :: q :: r, us, h =>
    have hl := h.length
    have hne : ¬ us.toArray.size = 1 := by simp [hl]
    rw [dif_neg hne]
    simp only [tupOf, Rd]
    exact ⟨us, rfl, h⟩
theorem tupOf_low {nb : Nat} : ∀ (vs : List PV), lows nb vs = true → (tupOf vs).low nb = true
  | [], _ => rfl
  | [v], h => by simpa [lows, tupOf] using h
  | v :: u :: r, h => h
theorem Rel.noFrame {bx : Boxes} {oc : List Loc} (R : Rel base M w0 F0 nt (boxSt bx oc) a w Fr β) (h : ∀ L ∈ oc, isCell L = true) : Rel base M w0 F0 0 (boxSt bx oc) act0 w Fr β := by
  have hv : ∀ L ∈ oc, valAt act0 w β L = valAt a w β L := fun L hL => (valAt_cell (h L hL)).symm
  refine ⟨fun i => by simp [boxSt, look, Rd], rfl, rfl, R.bx, R.nd, fun L hL => ?_, fun L hL L' hL' hne v v' g k1 k2 => ?_, fun L hL v g k1 => ?_, (fun q hq => by cases hq), fun g hg => R.may g (hg.imp id ?_), R.old, R.ge, R.os, R.tape, R.output⟩
  · rw [hv L hL]; exact R.own L hL
  · rw [hv L hL] at k1; rw [hv L' hL'] at k2
    exact R.sep L hL L' hL' hne v v' g k1 k2
  · rw [hv L hL] at k1; exact R.out L hL v g k1
  · rintro ⟨L, hL, v, k1, k2⟩
    exact ⟨L, hL, v, by rw [← hv L hL]; exact k1, k2⟩
theorem evF_ok (hm : P.follows .mixedOrders = true) {code : FuncId → Option CFun} {lib : Callee} (hcode : ∀ f c, code f = some c → ∃ lv, coFun P lv f = some c) (hlib : CallOk P Γ lib) : ∀ n, CallOk P Γ (evF code lib n) := by
  intro n
  induction n with
  | zero => intro f args bx oc vs' os bx' oc' h; simp [evF] at h
  | succ n ih =>
    intro f args bx oc vs' os bx' oc' h
    simp only [evF] at h
    cases hcf : code f with
    | none => rw [hcf] at h; exact hlib f args bx oc vs' os bx' oc' h
    | some c =>
      rw [hcf] at h
      dsimp only at h
      split at h
      case isFalse => cases h
      rename_i hlen
      obtain ⟨⟨o, st⟩, hev, h⟩ := Option.bind_eq_some_iff.1 h
      obtain ⟨lv, hco⟩ := hcode f c hcf
      unfold coFun at hco
      split at hco
      case h_2 => cases hco
      rename_i fn hfn
      split at hco
      case h_2 => cases hco
      rename_i body hbody
      split at hco
      case isFalse => cases hco
      rename_i hname
      obtain ⟨⟨cc, lv'⟩, hcc, hco⟩ := Option.bind_eq_some_iff.1 hco
      obtain ⟨rs, hrs, rfl⟩ := Option.map_eq_some_iff.1 hco
      dsimp only at h hev hlen
      refine ⟨by unfold entersB; rw [hfn]; simp only [hname, hbody, Option.isSome_some, Bool.and_self], fun w Fr β vs hp => ?_⟩
      have hvl := hp.args.length
      -- the frame at the start
      have hS : Good Γ ⟨w.heap.size, MayOf w β oc, w, Fr, fn.ntmps, w, Fr, β⟩ := ⟨hp.g, fun g hg => ⟨Γ.lt w hp.g g hg, hp.dis g hg⟩⟩
      obtain ⟨a0, ha0⟩ : ∃ a0 : Act, a0 = { tmps := vs.toArray ++ Array.replicate (fn.ntmps - vs.toArray.size) undef, defers := [] } := ⟨_, rfl⟩
      have hget : ∀ i, a0.tmps.getD i undef = vs.getD i undef := fun i => by
        subst ha0
        rw [Array.getD_eq_getD_getElem?, List.getD_eq_getElem?_getD]
        by_cases hi : i < vs.length
        · rw [Array.getElem?_append_left (by simpa using hi)]; simp
        · rw [Array.getElem?_append_right (by simpa using hi), List.getElem?_eq_none (by omega), Array.getElem?_replicate]
          split <;> rfl
      have R0 : Rel w.heap.size (MayOf w β oc) w Fr fn.ntmps { sl := initSl 0 args, ow := oc, al := [], bx := bx } a0 w Fr β := by
        have hcl : ∀ L ∈ oc, valAt a0 w β L = valAt act0 w β L := fun L hL => valAt_cell (hp.cells L hL)
        refine ⟨fun i => ?_, by subst ha0; simp; omega, by subst ha0; rfl, hp.rel.bx, hp.rel.nd, fun L hL => ?_, fun L hL L' hL' hne v v' g hv hv' => ?_, fun L hL v g hv => ?_, (fun q hq => by cases hq), fun g hg => .inr ?_, hp.rel.old, Nat.le_refl _, rfl, rfl, rfl⟩
        · rw [look_init, if_pos (Nat.zero_le _), Nat.sub_zero, hget]
          by_cases hi : i < args.length
          · obtain ⟨v, h1, h2⟩ := hp.args.get i _ (List.getElem?_eq_getElem hi)
            rw [List.getD_eq_getElem?_getD, List.getElem?_eq_getElem hi, List.getD_eq_getElem?_getD, h1]; exact h2
          · rw [List.getD_eq_getElem?_getD, List.getElem?_eq_none (by omega)]; simp [Rd]
        · obtain ⟨v, p, k1, k2, k3⟩ := hp.rel.own L hL
          exact ⟨v, p, by rw [hcl L hL]; exact k1, by rw [pvAt_cell (hp.cells L hL) (oc := oc)]; exact k2, k3⟩
        · rw [hcl L hL] at hv; rw [hcl L' hL'] at hv'
          exact hp.rel.sep L hL L' hL' hne v v' g hv hv'
        · rw [hcl L hL] at hv; exact hp.rel.out L hL v g hv
        · refine hg.imp id ?_
          rintro ⟨L, hL, v, hv, hg⟩
          exact ⟨L, hL, v, by rw [← hcl L hL]; exact hv, hg⟩
      refine calls_of_wp hfn hbody ?_
      have e0 : ({ tmps := vs.toArray ++ Array.replicate (fn.ntmps - vs.toArray.size) undef, defers := [] } : Act) = a0 := ha0.symm
      rw [e0]
      refine code_sound hm ih hS body lv cc lv' hcc _ st o a0 w _ hev rfl ⟨Fr, β, R0, Le.refl _ _ _⟩ fun a' w' hr' => ?_
      obtain ⟨Fr', β', R', hl'⟩ := hr'
      -- the results
      have fin : (rs.mapM (resV st)).map (fun vs => (vs, ownRes rs st.ow, trim bx.length vs st.bx, cellsUpto (trim bx.length vs st.bx).length st.ow)) = some (vs', os, bx', oc') →
          a'.defers = [] ∧ ∃ v, (results fn a'.tmps).run P w' = .ok v w' ∧ ∃ v0 Fr' β', Ending.returned v = .returned v0 ∧ Post w Fr β oc vs' os bx' oc' v0 w' Fr' β' := fun h => by
        obtain ⟨vs2, hvs, h⟩ := Option.map_eq_some_iff.1 h
        simp only [Prod.mk.injEq] at h
        obtain ⟨rfl, hos, hbx, hoc⟩ := h
        obtain ⟨us, hrun, hrd⟩ := res_run (rs := fn.results.toList) (cs := rs) R' hrs hvs
        obtain ⟨v0, hv0⟩ : ∃ v0, (if h : us.toArray.size = 1 then us.toArray[0] else .tuple us.toArray) = v0 := ⟨_, rfl⟩
        have hres : (results fn a'.tmps).run P w' = .ok v0 w' := by
          rw [results_eq, Array.mapM_eq_mapM_toList]
          simp only [Sem.run_bind, Sem.run_map]
          rw [hrun, ← hv0]
          rfl
        have hrdv : Rd w' Fr' β' (tupOf vs2) v0 := by rw [← hv0]; exact tup_rd hrd
        refine ⟨R'.df, v0, hres, v0, Fr', ?_⟩
        have hocm : ∀ L, L ∈ oc' → L ∈ st.ow ∧ isCell L = true ∧ ∀ b j, L = .cell b j → b < bx'.length := fun L hL => by
          rw [← hoc] at hL
          unfold cellsUpto at hL
          obtain ⟨h1, h2⟩ := List.mem_filter.1 hL
          cases L with
          | slot i => cases h2
          | cell b j => exact ⟨h1, rfl, fun b' j' e => by cases e; rw [← hbx]; simpa using h2⟩
        -- may the result be appended to
        have hown : ∀ β'' : List Nat, (∀ g ∈ β'', g ∈ β') → (∀ L ∈ oc', ∀ u, valAt act0 w' β'' L = some u → valAt a' w' β' L = some u) → os = true → OwnV w' Fr' (tupOf vs2) v0 ∧ ∀ g, v0.ownBlock = some g → (w.heap.size ≤ g ∨ MayOf w β oc g) ∧ g ∉ β'' ∧ ∀ L ∈ oc', ∀ u, valAt act0 w' β'' L = some u → u.ownBlock ≠ some g := fun β'' hsub hval ho => by
          have hsome : ∃ s, rs = [.inl s] ∧ Loc.slot s ∈ st.ow := by
            rw [← hos] at ho
            rcases rs with _ | ⟨r, _ | ⟨r2, rs3⟩⟩
            · cases ho
            · cases r with
              | inl s => exact ⟨s, rfl, by simpa [ownRes] using ho⟩
              | inr x => cases ho
            · cases r <;> cases ho
          obtain ⟨s, hrse, hin⟩ := hsome
          subst hrse
          · skip
            simp only [List.mapM_cons, List.mapM_nil, resV] at hvs
            cases hvs
            simp only [Rds] at hrd
            obtain ⟨u, r, rfl, h1, rfl⟩ := hrd
            have huv : u = v0 := by rw [← hv0]; simp
            subst huv
            obtain ⟨u', p, k1, k2, k3⟩ := R'.own _ hin
            have hus : a'.tmps.getD s undef = u := by
              have h9 : fn.results.toList.mapM (coRes P) = some [.inl s] := hrs
              cases hrl : fn.results.toList with
              | nil => rw [hrl] at h9; simp at h9
              | cons x xs =>
                rw [hrl, List.mapM_cons] at h9
                obtain ⟨c, hc, h9⟩ := Option.bind_eq_some_iff.1 h9
                obtain ⟨cs', hcs, h9⟩ := Option.bind_eq_some_iff.1 h9
                cases h9
                have hxt : x = .tmp s := by
                  cases x with
                  | tmp t => simp only [coRes, Option.some.injEq, Sum.inl.injEq] at hc; rw [hc]
                  | cell x' ty =>
                    simp only [coRes] at hc
                    obtain ⟨_, _, hc⟩ := Option.bind_eq_some_iff.1 hc
                    obtain ⟨_, _, hc⟩ := Option.bind_eq_some_iff.1 hc
                    split at hc <;> cases hc
                have hxs : xs = [] := by
                  cases xs with
                  | nil => rfl
                  | cons y ys =>
                    rw [List.mapM_cons] at hcs
                    obtain ⟨c, hc, hcs⟩ := Option.bind_eq_some_iff.1 hcs
                    obtain ⟨cs', hcs', hcs⟩ := Option.bind_eq_some_iff.1 hcs
                    cases hcs
                subst hxt; subst hxs
                rw [hrl] at hrun
                rw [List.mapM_cons] at hrun
                simp only [Sem.run_bind, Sem.run_pure, Result.andThen_ok, List.mapM_nil] at hrun
                cases hrun; rfl
            simp only [valAt, Option.some.injEq] at k1
            simp only [pvAt, Option.some.injEq] at k2
            rw [hus] at k1
            subst k1; subst k2
            have hva : valAt a' w' β' (.slot s) = some u := by simp only [valAt, hus]
            refine ⟨k3, fun g hg => ⟨R'.may g (.inr ⟨_, hin, u, hva, hg⟩), fun hm => R'.out _ hin u g hva hg (hsub g hm), fun L hL x hx hxg => ?_⟩⟩
            exact R'.sep _ hin L (hocm L hL).1 (fun e => by have := (hocm L hL).2.1; rw [← e] at this; cases this) u x g hva (hval L hL x hx) hg hxg
        by_cases h1 : bx' = st.bx
        · have Rc : Rel w.heap.size (MayOf w β oc) w Fr fn.ntmps (boxSt bx' oc') a' w' Fr' β' := R'.cut0 (fun i => .inl rfl) h1 (fun L hL => ⟨(hocm L hL).1, fun i e => by have := (hocm L hL).2.1; rw [e] at this; cases this⟩) rfl
          exact ⟨β', rfl, ⟨hrdv, Rc.noFrame (fun L hL => (hocm L hL).2.1), hl', fun L hL => (hocm L hL).2.1, hown β' (fun _ h => h) fun L hL u hu => by rw [valAt_cell (hocm L hL).2.1]; exact hu⟩⟩
        · have h2 : lows bx.length vs2 = true ∧ (st.bx.take bx.length).all (lows bx.length) = true ∧ bx' = st.bx.take bx.length := by
            rw [← hbx] at h1 ⊢
            unfold trim at h1 ⊢
            split at h1
            · exact absurd rfl h1
            · rename_i hne
              split at h1
              · rename_i hc
                rw [if_neg hne, if_pos hc]
                simp only [Bool.and_eq_true] at hc
                exact ⟨hc.1, hc.2, rfl⟩
              · exact absurd rfl h1
          obtain ⟨k1, k2, k3⟩ := h2
          have Rc : Rel w.heap.size (MayOf w β oc) w Fr fn.ntmps (boxSt bx' oc') a' w' Fr' (β'.take bx.length) := R'.cut (nb := bx.length) (fun i => .inl rfl) k3 (fun cs hcs => List.all_eq_true.1 k2 cs hcs) (fun L hL => ⟨(hocm L hL).1, (fun i e => by have := (hocm L hL).2.1; rw [e] at this; cases this), fun b j e => by
            have := (hocm L hL).2.2 b j e
            rw [k3, List.length_take] at this; omega⟩) rfl
          have hbl : bx.length = β.length := hp.rel.bx.1
          refine ⟨β'.take bx.length, rfl, ⟨low_rd _ _ (tupOf_low vs2 k1) hrdv, Rc.noFrame (fun L hL => (hocm L hL).2.1), ⟨hl'.size, hl'.fr, hl'.cell, fun i g hg => ?_⟩, fun L hL => (hocm L hL).2.1, hown _ (fun g hg => List.mem_of_mem_take hg) fun L hL u hu => ?_⟩⟩
          · have hlt := (List.getElem?_eq_some_iff.1 hg).1
            rw [List.getElem?_take_of_lt (by omega)]; exact hl'.box i g hg
          · rw [valAt_cell (hocm L hL).2.1]
            cases L with
            | slot i => exact hu
            | cell b j =>
              simp only [valAt] at hu ⊢
              have := (hocm _ hL).2.2 b j rfl
              rw [k3, List.length_take] at this
              rwa [List.getElem?_take_of_lt (by omega)] at hu
      cases o with
      | exit id => cases h
      | normal => exact fin h
      | ret => exact fin h
end
end Nun

/- What the functions give, whatever the fuel. -/
namespace Nun
open Go
def Sub (c c' : Callee) : Prop := ∀ f a b o r, c f a b o = some r → c' f a b o = some r
variable {c c' : Callee} {st st' : St}
theorem callSt_mono (h : Sub c c') {d : Option Nat} {f : FuncId} {as : List PV} (hs : callSt c st d f as = some st') : callSt c' st d f as = some st' := by
  unfold callSt at hs ⊢
  split at hs
  · rename_i hn
    rw [if_pos hn]
    obtain ⟨r, h1, h2⟩ := Option.bind_eq_some_iff.1 hs
    rw [h _ _ _ _ _ h1]; exact h2
  · rename_i hn
    rw [if_neg hn]
    obtain ⟨r, h1, h2⟩ := Option.map_eq_some_iff.1 hs
    rw [h _ _ _ _ _ h1, Option.map_some, h2]
theorem asg_same {d : Option Nat} {x : X} : stepOp c st d (.asg x) = stepOp c' st d (.asg x) := by
  cases x with
  | t s => rfl
  | c v =>
    cases v with
    | slc n cs => cases n <;> cases cs <;> rfl
    | _ => rfl
theorem append_same {d : Option Nat} {n : Nat} {x y : X} : stepOp c st d (.append n x y) = stepOp c' st d (.append n x y) := by
  cases x <;> rfl
theorem stepOp_mono (h : Sub c c') {d : Option Nat} {op : COp} (hs : stepOp c st d op = some st') : stepOp c' st d op = some st' := by
  cases op
  case call f as => simp only [stepOp] at hs ⊢; exact callSt_mono h hs
  case callv g as =>
    simp only [stepOp] at hs ⊢
    split at hs
    · exact callSt_mono h hs
    · cases hs
  case asg x => rw [← asg_same (c := c)]; exact hs
  case append n x y => rw [← append_same (c := c)]; exact hs
  all_goals exact hs
theorem stepG_mono (h : Sub c c') {o : COper} (hs : stepG c st o = some st') : stepG c' st o = some st' := by
  unfold stepG at hs ⊢
  obtain ⟨b, hb, h2⟩ := Option.bind_eq_some_iff.1 hs
  rw [hb]
  cases b
  · exact h2
  · exact stepOp_mono h h2
theorem stepP_mono (h : Sub c c') {o : COper} (hs : stepP c st o = some st') : stepP c' st o = some st' := by
  unfold stepP at hs ⊢
  obtain ⟨b, hb, h2⟩ := Option.bind_eq_some_iff.1 hs
  rw [hb]
  cases b
  · exact h2
  · simp only [if_true, Option.bind_some] at h2 ⊢
    split at h2
    · rename_i hp; rw [if_pos hp]; exact stepOp_mono h h2
    · cases h2
theorem evOps_mono (h : Sub c c') : ∀ {l : List COper} {st st' : St}, evOps c l st = some st' → evOps c' l st = some st'
  | [], _, _, hs => hs
  | o :: l, st, st', hs => by
    simp only [evOps] at hs ⊢
    obtain ⟨s, h1, h2⟩ := Option.bind_eq_some_iff.1 hs
    rw [stepG_mono h h1]; exact evOps_mono h h2
theorem evPre_mono (h : Sub c c') : ∀ {l : List COper} {st st' : St}, evPre c l st = some st' → evPre c' l st = some st'
  | [], _, _, hs => hs
  | o :: l, st, st', hs => by
    simp only [evPre] at hs ⊢
    obtain ⟨s, h1, h2⟩ := Option.bind_eq_some_iff.1 hs
    rw [stepP_mono h h1]; exact evPre_mono h h2
theorem evLoop_mono {b b' : St → Option (Out × St)} (h : ∀ s r, b s = some r → b' s = some r) {lv : List Nat} {nb : Nat} : ∀ {n m : Nat} {st : St} {r : Out × St}, n ≤ m → evLoop b lv nb n st = some r → evLoop b' lv nb m st = some r
  | 0, _, _, _, _, hs => by cases hs
  | n + 1, 0, _, _, hm, _ => by omega
  | n + 1, m + 1, st, r, hm, hs => by
    simp only [evLoop] at hs ⊢
    obtain ⟨⟨o, s⟩, h1, h2⟩ := Option.bind_eq_some_iff.1 hs
    rw [h _ _ h1]
    cases o with
    | normal => exact evLoop_mono h (by omega) h2
    | exit i => exact h2
    | ret => exact h2
theorem evC_mono (h : Sub c c') {n m : Nat} (hm : n ≤ m) : ∀ {k : CCode} {st : St} {r : Out × St}, evC c n k st = some r → evC c' m k st = some r
  | .skip, _, _, hs => hs
  | .reg p t, st, r, hs => by
    simp only [evC] at hs ⊢
    obtain ⟨s, h1, h2⟩ := Option.map_eq_some_iff.1 hs
    obtain ⟨s1, h3, h4⟩ := Option.bind_eq_some_iff.1 h1
    rw [evPre_mono h h3, Option.bind_some, evOps_mono h h4, Option.map_some, h2]
  | .seq a b, st, r, hs => by
    simp only [evC] at hs ⊢
    obtain ⟨⟨o, s⟩, h1, h2⟩ := Option.bind_eq_some_iff.1 hs
    rw [evC_mono h hm h1]
    cases o with
    | normal => exact evC_mono h hm h2
    | exit i => exact h2
    | ret => exact h2
  | .cond x a b, st, r, hs => by
    simp only [evC] at hs ⊢
    split at hs
    · rename_i t e
      cases t
      · exact evC_mono h hm hs
      · exact evC_mono h hm hs
    · cases hs
  | .block id b, st, r, hs => by
    simp only [evC] at hs ⊢
    obtain ⟨s, h1, h2⟩ := Option.map_eq_some_iff.1 hs
    rw [evC_mono h hm h1, Option.map_some, h2]
  | .loop lv b, st, r, hs => by
    simp only [evC] at hs ⊢
    exact evLoop_mono (fun s r hs => evC_mono h hm hs) hm hs
  | .exit id, _, _, hs => hs
  | .ret, _, _, hs => hs
/-- A function's body, with what its callees give. -/
def evB (cf : Callee) (n : Nat) (c : CFun) (args : List PV) (bx : Boxes) (oc : List Loc) : Option Ans :=
  if args.length ≤ c.nt then
    (evC cf n c.body { sl := initSl 0 args, ow := oc, al := [], bx }).bind fun (o, st) =>
      match o with
      | .exit _ => none
      | _ => (c.res.mapM (resV st)).map fun vs => (vs, ownRes c.res st.ow, trim bx.length vs st.bx, cellsUpto (trim bx.length vs st.bx).length st.ow)
  else none
theorem evB_mono (h : Sub c c') {n m : Nat} (hm : n ≤ m) {k : CFun} {args : List PV} {bx : Boxes} {oc : List Loc} {r : Ans} (hs : evB c n k args bx oc = some r) : evB c' m k args bx oc = some r := by
  unfold evB at hs ⊢
  split at hs
  case isFalse => cases hs
  rename_i hl
  rw [if_pos hl]
  obtain ⟨p, h1, h2⟩ := Option.bind_eq_some_iff.1 hs
  rw [evC_mono h hm h1]; exact h2
variable {code : FuncId → Option CFun} {lib : Callee}
theorem evF_succ (n : Nat) (f : FuncId) (args : List PV) (bx : Boxes) (oc : List Loc) : evF code lib (n + 1) f args bx oc = match code f with | none => lib f args bx oc | some k => evB (evF code lib n) n k args bx oc := rfl
theorem evF_step : ∀ n, Sub (evF code lib n) (evF code lib (n + 1))
  | 0 => fun f a b o r h => by cases h
  | n + 1 => fun f a b o r h => by
    rw [evF_succ] at h ⊢
    cases hc : code f with
    | none => rw [hc] at h; exact h
    | some k => rw [hc] at h; exact evB_mono (evF_step n) (Nat.le_succ n) h
theorem evF_mono {n m : Nat} (hm : n ≤ m) : Sub (evF code lib n) (evF code lib m) := by
  induction m with
  | zero => have : n = 0 := by omega
            subst this; exact fun _ _ _ _ _ h => h
  | succ m ih =>
    by_cases h : n = m + 1
    · subst h; exact fun _ _ _ _ _ h => h
    · exact fun f a b o r hr => evF_step m _ _ _ _ _ (ih (by omega) f a b o r hr)
/-- What the functions give with fuel enough. -/
noncomputable def evW (code : FuncId → Option CFun) (lib : Callee) : Callee := fun f args bx oc =>
  open Classical in if h : ∃ n r, evF code lib n f args bx oc = some r then some (h.choose_spec.choose) else none
theorem evW_iff {f : FuncId} {a : List PV} {b : Boxes} {o : List Loc} {r : Ans} : evW code lib f a b o = some r ↔ ∃ n, evF code lib n f a b o = some r := by
  unfold evW
  constructor
  · intro h
    split at h
    · rename_i hx
      cases h
      exact ⟨_, hx.choose_spec.choose_spec⟩
    · cases h
  · rintro ⟨n, hn⟩
    have hx : ∃ n r, evF code lib n f a b o = some r := ⟨n, r, hn⟩
    rw [dif_pos hx]
    have h1 := hx.choose_spec.choose_spec
    have h2 := evF_mono (Nat.le_max_left hx.choose n) _ _ _ _ _ h1
    have h3 := evF_mono (Nat.le_max_right hx.choose n) _ _ _ _ _ hn
    rw [h2] at h3
    exact h3
/-- A chain of callees, and what each of its answers comes of. -/
structure Chain (F : Nat → Callee) (W : Callee) : Prop where
  mono : ∀ n m, n ≤ m → Sub (F n) (F m)
  fin : ∀ f a b o r, W f a b o = some r → ∃ n, F n f a b o = some r
variable {F : Nat → Callee} {W : Callee}
theorem callSt_fin (h : Chain F W) {d : Option Nat} {f : FuncId} {as : List PV} (hs : callSt W st d f as = some st') : ∃ n, callSt (F n) st d f as = some st' := by
  unfold callSt at hs ⊢
  split at hs
  · rename_i hn
    obtain ⟨r, h1, h2⟩ := Option.bind_eq_some_iff.1 hs
    obtain ⟨n, h3⟩ := h.fin _ _ _ _ _ h1
    exact ⟨n, by rw [if_pos hn, h3]; exact h2⟩
  · rename_i hn
    obtain ⟨r, h1, h2⟩ := Option.map_eq_some_iff.1 hs
    obtain ⟨n, h3⟩ := h.fin _ _ _ _ _ h1
    exact ⟨n, by rw [if_neg hn, h3, Option.map_some, h2]⟩
theorem stepOp_fin (h : Chain F W) {d : Option Nat} {op : COp} (hs : stepOp W st d op = some st') : ∃ n, stepOp (F n) st d op = some st' := by
  cases op
  case call f as => simp only [stepOp] at hs ⊢; exact callSt_fin h hs
  case callv g as =>
    simp only [stepOp] at hs ⊢
    split at hs
    · exact callSt_fin h hs
    · cases hs
  case asg x => exact ⟨0, by rw [← asg_same (c := W)]; exact hs⟩
  case append n x y => exact ⟨0, by rw [← append_same (c := W)]; exact hs⟩
  all_goals exact ⟨0, hs⟩
theorem stepG_fin (h : Chain F W) {o : COper} (hs : stepG W st o = some st') : ∃ n, stepG (F n) st o = some st' := by
  unfold stepG at hs ⊢
  obtain ⟨b, hb, h2⟩ := Option.bind_eq_some_iff.1 hs
  rw [hb]
  cases b
  · exact ⟨0, h2⟩
  · exact stepOp_fin h h2
theorem stepP_fin (h : Chain F W) {o : COper} (hs : stepP W st o = some st') : ∃ n, stepP (F n) st o = some st' := by
  unfold stepP at hs ⊢
  obtain ⟨b, hb, h2⟩ := Option.bind_eq_some_iff.1 hs
  rw [hb]
  cases b
  · exact ⟨0, h2⟩
  · simp only [if_true, Option.bind_some] at h2 ⊢
    split at h2
    · rename_i hp
      obtain ⟨n, hn⟩ := stepOp_fin h h2
      exact ⟨n, by rw [if_pos hp]; exact hn⟩
    · cases h2
theorem evOps_fin (h : Chain F W) : ∀ {l : List COper} {st st' : St}, evOps W l st = some st' → ∃ n, evOps (F n) l st = some st'
  | [], _, _, hs => ⟨0, hs⟩
  | o :: l, st, st', hs => by
    simp only [evOps] at hs
    obtain ⟨s, h1, h2⟩ := Option.bind_eq_some_iff.1 hs
    obtain ⟨n1, k1⟩ := stepG_fin h h1
    obtain ⟨n2, k2⟩ := evOps_fin h h2
    refine ⟨max n1 n2, ?_⟩
    simp only [evOps]
    rw [stepG_mono (h.mono _ _ (Nat.le_max_left ..)) k1]
    exact evOps_mono (h.mono _ _ (Nat.le_max_right ..)) k2
theorem evPre_fin (h : Chain F W) : ∀ {l : List COper} {st st' : St}, evPre W l st = some st' → ∃ n, evPre (F n) l st = some st'
  | [], _, _, hs => ⟨0, hs⟩
  | o :: l, st, st', hs => by
    simp only [evPre] at hs
    obtain ⟨s, h1, h2⟩ := Option.bind_eq_some_iff.1 hs
    obtain ⟨n1, k1⟩ := stepP_fin h h1
    obtain ⟨n2, k2⟩ := evPre_fin h h2
    refine ⟨max n1 n2, ?_⟩
    simp only [evPre]
    rw [stepP_mono (h.mono _ _ (Nat.le_max_left ..)) k1]
    exact evPre_mono (h.mono _ _ (Nat.le_max_right ..)) k2
theorem evC_fin (h : Chain F W) {n : Nat} : ∀ {k : CCode} {st : St} {r : Out × St}, evC W n k st = some r → ∃ m, evC (F m) n k st = some r
  | .skip, _, _, hs => ⟨0, hs⟩
  | .reg p t, st, r, hs => by
    simp only [evC] at hs
    obtain ⟨s, h1, h2⟩ := Option.map_eq_some_iff.1 hs
    obtain ⟨s1, h3, h4⟩ := Option.bind_eq_some_iff.1 h1
    obtain ⟨n1, k1⟩ := evPre_fin h h3
    obtain ⟨n2, k2⟩ := evOps_fin h h4
    refine ⟨max n1 n2, ?_⟩
    simp only [evC]
    rw [evPre_mono (h.mono _ _ (Nat.le_max_left ..)) k1, Option.bind_some, evOps_mono (h.mono _ _ (Nat.le_max_right ..)) k2, Option.map_some, h2]
  | .seq a b, st, r, hs => by
    simp only [evC] at hs
    obtain ⟨⟨o, s⟩, h1, h2⟩ := Option.bind_eq_some_iff.1 hs
    obtain ⟨n1, k1⟩ := evC_fin h h1
    cases o with
    | normal =>
      obtain ⟨n2, k2⟩ := evC_fin h h2
      refine ⟨max n1 n2, ?_⟩
      simp only [evC]
      rw [evC_mono (h.mono _ _ (Nat.le_max_left ..)) (Nat.le_refl n) k1]
      exact evC_mono (h.mono _ _ (Nat.le_max_right ..)) (Nat.le_refl n) k2
    | exit i => exact ⟨n1, by simp only [evC]; rw [k1]; exact h2⟩
    | ret => exact ⟨n1, by simp only [evC]; rw [k1]; exact h2⟩
  | .cond x a b, st, r, hs => by
    simp only [evC] at hs ⊢
    split at hs
    · rename_i t e
      cases t
      · exact evC_fin h hs
      · exact evC_fin h hs
    · cases hs
  | .block id b, st, r, hs => by
    simp only [evC] at hs ⊢
    obtain ⟨s, h1, h2⟩ := Option.map_eq_some_iff.1 hs
    obtain ⟨n1, k1⟩ := evC_fin h h1
    exact ⟨n1, by rw [k1, Option.map_some, h2]⟩
  | .loop lv b, st, r, hs => by
    simp only [evC] at hs ⊢
    have key : ∀ (k nb : Nat) (st : St) (r : Out × St), evLoop (evC W n b) lv nb k st = some r → ∃ m, evLoop (evC (F m) n b) lv nb k st = some r := by
      intro k nb
      induction k with
      | zero => intro st r h; cases h
      | succ k ih =>
        intro st r hs
        simp only [evLoop] at hs
        obtain ⟨⟨o, s⟩, h1, h2⟩ := Option.bind_eq_some_iff.1 hs
        obtain ⟨n1, k1⟩ := evC_fin h h1
        cases o with
        | normal =>
          obtain ⟨n2, k2⟩ := ih s r h2
          refine ⟨max n1 n2, ?_⟩
          simp only [evLoop]
          rw [evC_mono (h.mono _ _ (Nat.le_max_left ..)) (Nat.le_refl n) k1]
          exact evLoop_mono (fun s r hs => evC_mono (h.mono _ _ (Nat.le_max_right ..)) (Nat.le_refl n) hs) (Nat.le_refl k) k2
        | exit i => exact ⟨n1, by simp only [evLoop]; rw [k1]; exact h2⟩
        | ret => exact ⟨n1, by simp only [evLoop]; rw [k1]; exact h2⟩
    exact key n _ st r hs
  | .exit id, _, _, hs => ⟨0, hs⟩
  | .ret, _, _, hs => ⟨0, hs⟩
theorem chainW : Chain (evF code lib) (evW code lib) := ⟨fun n m h => evF_mono h, fun f a b o r h => evW_iff.1 h⟩
/-- A function of the table: its body, once. -/
theorem evW_of {f : FuncId} {k : CFun} (hk : code f = some k) {args : List PV} {bx : Boxes} {oc : List Loc} {r : Ans} {n : Nat} (h : evB (evW code lib) n k args bx oc = some r) : evW code lib f args bx oc = some r := by
  unfold evB at h
  split at h
  case isFalse => cases h
  rename_i hl
  obtain ⟨p, h1, h2⟩ := Option.bind_eq_some_iff.1 h
  obtain ⟨m, h3⟩ := evC_fin chainW h1
  refine evW_iff.2 ⟨max m n + 1, ?_⟩
  rw [evF_succ, hk]
  dsimp only
  unfold evB
  rw [if_pos hl, evC_mono (evF_mono (Nat.le_max_left m n)) (Nat.le_max_right m n) h3]
  exact h2
theorem evW_lib {f : FuncId} (hk : code f = none) {args : List PV} {bx : Boxes} {oc : List Loc} {r : Ans} (h : lib f args bx oc = some r) : evW code lib f args bx oc = some r :=
  evW_iff.2 ⟨1, by rw [evF_succ, hk]; exact h⟩
theorem evW_ok {P : Program} {Γ : Glob} (hm : P.follows .mixedOrders = true) (hcode : ∀ f c, code f = some c → ∃ lv, coFun P lv f = some c) (hlib : CallOk P Γ lib) : CallOk P Γ (evW code lib) := fun f args bx oc vs' os bx' oc' h => by
  obtain ⟨n, hn⟩ := evW_iff.1 h
  exact evF_ok hm hcode hlib n f args bx oc vs' os bx' oc' hn
end Nun

/- A law's arguments, opened to plain values; and the law's last step. -/
namespace Nun
open Go Go.RowKit Go.WideShapes Go.ChangeShapes
/-- Every row's whole length. -/
def Fr0 (w : World) (g : Nat) : Nat := match w.heap[g]? with | some (.cells cs _ _) => cs.size | _ => 0
theorem fr0_lt {w : World} {g o : Nat} {v : Value} (h : w.cell? ⟨g, o, none⟩ = some v) : o < Fr0 w g := by
  unfold World.cell? at h
  unfold Fr0
  dsimp only at h
  split at h
  · rename_i cs t z hg
    rw [hg]
    dsimp only
    simp only [Option.isSome_none, Bool.false_eq_true, if_false] at h
    exact (Array.getElem?_eq_some_iff.1 h).1
  · cases h
theorem spot_none {w : World} {a : Addr} {v : Value} (h : w.cell? a = some v) : a = ⟨a.block, a.off, none⟩ := by
  obtain ⟨b, o, s⟩ := a
  cases s with
  | none => rfl
  | some s =>
    unfold World.cell? at h
    dsimp only at h
    split at h
    · simp at h
    · cases h
def fit (P : Program) : Nat → TypeId → List PV → Prop
  | 0, _, _ => False
  | n + 1, t, ps => match P.underlying t with
    | some .bool => ∃ b, ps = [.flat (.bool b)]
    | some (.int k) => ∃ i, ps = [.flat (.int k i)] ∧ (Lit.int k i).wf = true
    | some .string => ∃ s : ByteArray, ps = [.flat (.string s)] ∧ s.size ≤ maxLen
    | some (.pointer e) => ps = [.flat (.pointer none)] ∨ (P.cellsOf e = 0 ∧ ps = [.unk]) ∨ ∃ qs, ps = [.elt qs] ∧ fit P n e qs
    | some (.slice e) => ∃ xss : List (List PV), ps = [.slc xss.length xss.flatten] ∧ xss.length ≤ maxLen ∧ ∀ xs ∈ xss, fit P n e xs
    | some (.struct fs) => ∃ xss : List (List PV), ps = xss.flatten ∧ xss.length = fs.size ∧ ∀ (j : Nat) (f : Field) (xs : List PV), fs[j]? = some f → xss[j]? = some xs → fit P n f.type xs
    | some (.array m e) => ∃ xss : List (List PV), ps = xss.flatten ∧ xss.length = m ∧ ∀ xs ∈ xss, fit P n e xs
    | _ => True
/-- Cells that were read, as plain values. -/
def Opened (P : Program) (w : World) (n : Nat) (t : TypeId) (cs : List Value) : Prop := ∃ ps, Rds w (Fr0 w) [] ps cs ∧ Ones cs ∧ fit P n t ps
theorem row_of_cells {w : World} {base : Nat} {a : Addr} {n : Nat} {cs : List Value} (h : w.cells? base a n = some cs) (hn : 0 < n) : a = ⟨a.block, a.off, none⟩ ∧ Row w (Fr0 w) a.block a.off cs := by
  obtain ⟨_, hl, hc⟩ := World.cells?_some h
  have h0 := hc 0 hn
  rw [List.getElem?_eq_getElem (by omega)] at h0
  have ha : a = ⟨a.block, a.off, none⟩ := by
    have := spot_none h0
    obtain ⟨b, o, s⟩ := a
    simp only [Addr.add] at this
    simp_all
  refine ⟨ha, fun j v hj => ?_⟩
  have hjn : j < n := by have := (List.getElem?_eq_some_iff.1 hj).1; omega
  have h1 := hc j hjn
  rw [hj] at h1
  have e : a.add j = ⟨a.block, a.off + j, none⟩ := by
    have := spot_none h1
    rw [ha] at this ⊢
    unfold Addr.add at this ⊢
    split
    · rename_i h0; subst h0; rfl
    · rfl
  rw [e] at h1
  exact ⟨fr0_lt h1, h1⟩
theorem row_append {w : World} {Fr : Nat → Nat} {g o : Nat} {us vs : List Value} (h : Row w Fr g o us) (k : Row w Fr g (o + us.length) vs) : Row w Fr g o (us ++ vs) := fun j v hj => by
  by_cases hlt : j < us.length
  · rw [List.getElem?_append_left hlt] at hj; exact h j v hj
  · rw [List.getElem?_append_right (by omega)] at hj
    have := k (j - us.length) v hj
    rwa [show o + us.length + (j - us.length) = o + j by omega] at this

theorem ones_append {us vs : List Value} (h : Ones us) (k : Ones vs) : Ones (us ++ vs) := fun v hv => (List.mem_append.1 hv).elim (h v) (k v)
/-- Pieces of cells, one after the other. -/
theorem open_pieces {P : Program} {w : World} {n : Nat} {α : Type} {ty : α → TypeId} {size : α → Nat} : ∀ (l : List α) (cs : List Value), cs.length = (l.map size).sum →
    (∀ (j : Nat) (f : α), l[j]? = some f → Opened P w n (ty f) ((cs.drop ((l.take j).map size).sum).take (size f))) →
    ∃ xss : List (List PV), Rds w (Fr0 w) [] xss.flatten cs ∧ Ones cs ∧ xss.length = l.length ∧ ∀ (j : Nat) (f : α) (xs : List PV), l[j]? = some f → xss[j]? = some xs → fit P n (ty f) xs
  | [], cs, hl, _ => by
    have : cs = [] := List.eq_nil_of_length_eq_zero (by simpa using hl)
    subst this
    exact ⟨[], by simp [Rds], (fun v hv => by cases hv), rfl, (fun j f xs h => by simp at h)⟩
  | f :: l, cs, hl, h => by
    simp only [List.map_cons, List.sum_cons] at hl
    obtain ⟨ps, h1, h2, h3⟩ := h 0 f rfl
    simp only [List.take_zero, List.map_nil, List.sum_nil, List.drop_zero] at h1 h2
    obtain ⟨xss, k1, k2, k3, k4⟩ := open_pieces (P := P) (w := w) (n := n) (ty := ty) (size := size) l (cs.drop (size f)) (by rw [List.length_drop]; omega) fun j g hj => by
      have := h (j + 1) g (by simpa using hj)
      simp only [List.take_succ_cons, List.map_cons, List.sum_cons] at this
      rw [List.drop_drop]; exact this
    refine ⟨ps :: xss, ?_, ?_, by simp [k3], fun j g xs hg hx => ?_⟩
    · rw [List.flatten_cons]
      have := h1.append k1
      rwa [List.take_append_drop] at this
    · have := ones_append h2 k2
      rwa [List.take_append_drop] at this
    · cases j with
      | zero => simp at hg hx; subst hg; subst hx; exact h3
      | succ j => exact k4 j g xs (by simpa using hg) (by simpa using hx)
theorem mapM_at {α γ : Type} {f : α → Option γ} {l : List α} {r : List γ} (h : l.mapM f = some r) (j : Nat) (o : α) (ho : l[j]? = some o) : ∃ c, f o = some c := by
  obtain ⟨h1, h2⟩ := mapM_get h
  have hj : j < r.length := by rw [h1]; exact (List.getElem?_eq_some_iff.1 ho).1
  obtain ⟨o', k1, k2⟩ := h2 j _ (List.getElem?_eq_getElem hj)
  rw [ho] at k1; cases k1
  exact ⟨_, k2⟩
section
variable {H : Type} {enc : TypeId × Value → H} {P : Program} {w : World} {base : Nat} {spare : Nat → Bool} {held : Bool}
theorem opened_one {n : Nat} {t : TypeId} {v : Value} {p : PV} (h : Rd w (Fr0 w) [] p v) (ho : v.oneCell' = true) (hf : fit P n t [p]) : Opened P w n t [v] :=
  ⟨[p], by simp only [Rds]; exact ⟨v, [], rfl, h, rfl⟩, fun u hu => by simp at hu; rw [hu]; exact ho, hf⟩
theorem range_sum (m c j : Nat) (h : j ≤ m) : (((List.range m).take j).map fun _ => c).sum = j * c := by
  rw [List.map_const', List.sum_replicate_nat, List.length_take, List.length_range, Nat.min_eq_left h]
theorem opened_unk {n : Nat} {t : TypeId} {v : Value} (ho : v.oneCell' = true) (hf : fit P n t [.unk]) : Opened P w n t [v] := opened_one (p := .unk) (by simp [Rd]) ho hf
theorem trod_open (K : Kids P (· < P.types.size)) (hz : ∀ t e, t < P.types.size → P.underlying t = some (.slice e) → 0 < P.cellsOf e) : ∀ (n : Nat) (t : TypeId) (cs : List Value) (x : DataW H × List MemPlace), t < P.types.size →
    DataW.trod enc P w base spare held n t cs = some x → Opened P w n t cs := by
  intro n
  induction n with
  | zero => intro t cs x _ h; simp [DataW.trod] at h
  | succ n ih =>
    intro t cs x ht h
    rw [DataW.trod_step] at h
    unfold DataW.trodStep at h
    split at h
    case h_1 b e => exact opened_one (p := .flat (.bool b)) (by simp [Rd, flatV]) rfl (by simp only [fit, e]; exact ⟨b, rfl⟩)
    case h_2 k k' i e =>
      split at h
      · rename_i hc
        obtain ⟨rfl, hc⟩ := hc
        exact opened_one (p := .flat (.int k' i)) (by simp [Rd, flatV]) rfl (by simp only [fit, e]; exact ⟨_, rfl, hc⟩)
      · cases h
    case h_3 e => exact opened_unk rfl (by simp only [fit, e])
    case h_4 s e =>
      split at h
      · rename_i hc
        exact opened_one (p := .flat (.string s)) (by simp [Rd, flatV]) rfl (by simp only [fit, e]; exact ⟨_, rfl, hc⟩)
      · cases h
    case h_5 e => exact opened_one (p := .flat (.pointer none)) (by simp [Rd, flatV]) rfl (by simp only [fit, e]; exact .inl trivial)
    case h_6 e a he =>
      simp only [Option.map_eq_some_iff, Option.bind_eq_some_iff] at h
      obtain ⟨y, ⟨cs', hc, hy⟩, rfl⟩ := h
      by_cases h0 : P.cellsOf e = 0
      · exact opened_unk rfl (by simp only [fit, he]; exact .inr (.inl ⟨h0, by trivial⟩))
      · obtain ⟨ha, hr⟩ := row_of_cells hc (by omega)
        obtain ⟨qs, h1, h2, h3⟩ := ih e cs' y (K.pointer ht he) hy
        refine opened_one (p := .elt qs) ?_ rfl (by simp only [fit, he]; exact .inr (.inr ⟨qs, rfl, h3⟩))
        simp only [Rd]
        exact ⟨a.block, a.off, cs', by rw [ha], hr, h1, h2⟩
    case h_7 e => 
      refine opened_one (p := .slc 0 []) ?_ rfl (by simp only [fit, e]; exact ⟨[], rfl, Nat.zero_le _, fun _ h => by cases h⟩)
      simp only [Rd]; exact ⟨none, 0, rfl, Nat.le_refl _, .inl ⟨trivial, trivial⟩⟩
    case h_8 e a len cap he =>
      have hC := hz t e ht he
      split at h
      case isFalse => cases h
      rename_i hc
      obtain ⟨hb, hl, hm⟩ := hc
      simp only [Option.bind_eq_some_iff] at h
      obtain ⟨elems, hel, _⟩ := h
      obtain ⟨hlen, _⟩ := mapM_get hel
      have hat : ∀ i, i < len → ∃ cs y, w.cells? base (a.add (i * P.cellsOf e)) (P.cellsOf e) = some cs ∧ DataW.trod enc P w base spare held n e cs = some y := fun i hi => by
        obtain ⟨c, hc⟩ := mapM_at hel i i (List.getElem?_range hi)
        obtain ⟨cs, k1, k2⟩ := Option.bind_eq_some_iff.1 hc
        exact ⟨cs, c, k1, k2⟩
      by_cases h0 : len = 0
      · subst h0
        refine opened_one (p := .slc 0 []) ?_ rfl (by simp only [fit, he]; exact ⟨[], rfl, Nat.zero_le _, fun _ h => by cases h⟩)
        simp only [Rd]; exact ⟨some a, cap, rfl, Nat.zero_le _, .inl ⟨trivial, trivial⟩⟩
      · have key : ∀ k, k ≤ len → ∃ (vs : List Value) (xss : List (List PV)), vs.length = k * P.cellsOf e ∧ Row w (Fr0 w) a.block a.off vs ∧ Rds w (Fr0 w) [] xss.flatten vs ∧ Ones vs ∧ xss.length = k ∧ ∀ xs ∈ xss, fit P n e xs := by
          intro k
          induction k with
          | zero => exact fun _ => ⟨[], [], by simp, (fun j v hj => by simp at hj), by simp [Rds], (fun v hv => by cases hv), rfl, fun _ h => by cases h⟩
          | succ k ihk =>
            intro hk
            obtain ⟨vs, xss, k1, k2, k3, k4, k5, k6⟩ := ihk (by omega)
            obtain ⟨cs, y, q1, q2⟩ := hat k (by omega)
            obtain ⟨qa, qr⟩ := row_of_cells q1 hC
            obtain ⟨ps, r1, r2, r3⟩ := ih e cs y (K.slice ht he) q2
            have hcl : cs.length = P.cellsOf e := (World.cells?_some q1).2.1
            refine ⟨vs ++ cs, xss ++ [ps], by rw [List.length_append, k1, hcl, Nat.succ_mul], row_append k2 ?_, by rw [List.flatten_append]; simpa using k3.append r1, ones_append k4 r2, by simp [k5], fun xs hx => ?_⟩
            · have e1 : (a.add (k * P.cellsOf e)).block = a.block := by unfold Addr.add; split <;> rfl
              have e2 : (a.add (k * P.cellsOf e)).off = a.off + k * P.cellsOf e := by
                unfold Addr.add; split
                · rename_i h9; rw [h9]; rfl
                · rfl
              rw [e1, e2] at qr
              rw [k1]; exact qr
            · rcases List.mem_append.1 hx with hx | hx
              · exact k6 xs hx
              · simp at hx; subst hx; exact r3
        obtain ⟨vs, xss, k1, k2, k3, k4, k5, k6⟩ := key len (Nat.le_refl _)
        refine opened_one (p := .slc xss.length xss.flatten) ?_ rfl (by simp only [fit, he]; exact ⟨xss, rfl, by omega, k6⟩)
        have ha : a = ⟨a.block, a.off, none⟩ := by
          obtain ⟨cs, y, q1, q2⟩ := hat 0 (by omega)
          obtain ⟨qa, _⟩ := row_of_cells q1 hC
          unfold Addr.add at qa
          simpa using qa
        simp only [Rd]
        exact ⟨some a, cap, by rw [k5], by omega, .inr ⟨a.block, a.off, vs, by rw [← ha], k2, k3, k4⟩⟩
    case h_9 fs he =>
      obtain ⟨s1, s2, s3⟩ := K.struct ht he
      split at h
      case isFalse => cases h
      rename_i hc
      obtain ⟨xs, hx, _⟩ := Option.map_eq_some_iff.1 h
      obtain ⟨xss, k1, k2, k3, k4⟩ := open_pieces (P := P) (w := w) (n := n) (ty := Field.type) (size := fun f => P.cellsOf f.type) fs.toList _ (by rw [hc, s2]) fun j f hj => by
        obtain ⟨c, hcc⟩ := mapM_at hx j f hj
        rw [s3 j f hj] at hcc
        exact ih f.type _ c (s1 f (List.mem_of_getElem? hj)) hcc
      exact ⟨xss.flatten, k1, k2, by simp only [fit, he]; exact ⟨xss, rfl, by rw [k3]; simp, fun j f ys hf hy => k4 j f ys (by rw [Array.getElem?_toList]; exact hf) hy⟩⟩
    case h_10 m e he =>
      obtain ⟨s1, s2⟩ := K.array ht he
      split at h
      case isFalse => cases h
      rename_i hc
      obtain ⟨xs, hx, _⟩ := Option.map_eq_some_iff.1 h
      obtain ⟨xss, k1, k2, k3, k4⟩ := open_pieces (P := P) (w := w) (n := n) (ty := fun _ => e) (size := fun _ => P.cellsOf e) (List.range m) _ (by rw [hc, s2]; have := range_sum m (P.cellsOf e) m (Nat.le_refl _); rw [List.take_of_length_le (by simp)] at this; exact this.symm) fun j f hj => by
        obtain ⟨c, hcc⟩ := mapM_at hx j f hj
        have hjm : j < m := by have := (List.getElem?_eq_some_iff.1 hj).1; simpa using this
        have hfj : f = j := by rw [List.getElem?_range hjm] at hj; cases hj; rfl
        subst hfj
        rw [range_sum m _ f (by omega)]
        exact ih e _ c s1 hcc
      refine ⟨xss.flatten, k1, k2, ?_⟩
      simp only [fit, he]
      refine ⟨xss, rfl, by rw [k3]; simp, fun ys hy => ?_⟩
      obtain ⟨j, hj⟩ := List.getElem?_of_mem hy
      have hjm : j < m := by have := (List.getElem?_eq_some_iff.1 hj).1; rw [k3] at this; simpa using this
      exact k4 j j ys (List.getElem?_range hjm) hj
    case h_11 e => exact opened_unk rfl (by simp only [fit, e])
    case h_12 e => exact opened_unk rfl (by simp only [fit, e])
    case h_13 e => exact opened_unk rfl (by simp only [fit, e])
    case h_14 e => exact opened_unk rfl (by simp only [fit, e])
    case h_15 e => exact opened_unk rfl (by simp only [fit, e])
    case h_16 e => exact opened_unk rfl (by simp only [fit, e])
    case h_17 e => exact opened_unk rfl (by simp only [fit, e])
    case h_18 e => exact opened_unk rfl (by simp only [fit, e])
    case h_19 e => exact opened_unk rfl (by simp only [fit, e])
    case h_20 e => exact opened_unk rfl (by simp only [fit, e])
    case h_21 => cases h
/-- An argument: a struct or an array is one value of many cells. -/
def fitA (P : Program) (n : Nat) (t : TypeId) (p : PV) : Prop := match P.underlying t with
  | some (.struct _) | some (.array _ _) => ∃ ps, p = .agg ps ∧ fit P n t ps
  | _ => fit P n t [p]
def fits (P : Program) : List TypeId → List PV → Prop
  | [], [] => True
  | t :: ts, p :: ps => (∃ n, fitA P n t p) ∧ fits P ts ps
  | _, _ => False
theorem cells_one {r : Reach} {b0 : Nat} {t : TypeId} {v : Value} (h : Cell.okWide P w r b0 t v) : v.cells = #[v] := by
  cases v
  case agg cs =>
    exfalso
    unfold Cell.okWide at h
    split at h
    all_goals first
      | (simp_all; done)
      | skip
    unfold Cell.ok at h
    split at h <;> simp_all
  all_goals rfl
theorem arg_open (K : Kids P (· < P.types.size)) (hz : ∀ t e, t < P.types.size → P.underlying t = some (.slice e) → 0 < P.cellsOf e) {r : Reach} {b0 : Nat} {t : TypeId} {v : Value} {d : DataW H} {ps : List MemPlace} (ht : t < P.types.size) (hok : Value.okWide P w r b0 t v)
    (h : DataW.Trod enc P w base spare held t v d ps) : ∃ n p, Rd w (Fr0 w) [] p v ∧ fitA P n t p := by
  obtain ⟨n, hn⟩ := h
  obtain ⟨qs, h1, h2, h3⟩ := trod_open K hz n t _ _ ht hn
  unfold Value.okWide at hok
  split at hok
  case h_1 fs e =>
    obtain ⟨cs, rfl, _⟩ := hok
    refine ⟨n, .agg qs, ?_, by simp only [fitA, e]; exact ⟨qs, rfl, h3⟩⟩
    simp only [Rd]
    exact ⟨cs.toList, by simp, h1, h2⟩
  case h_2 m e' e =>
    obtain ⟨cs, rfl, _⟩ := hok
    refine ⟨n, .agg qs, ?_, by simp only [fitA, e]; exact ⟨qs, rfl, h3⟩⟩
    simp only [Rd]
    exact ⟨cs.toList, by simp, h1, h2⟩
  case h_3 e1 e2 =>
    have hc := cells_one hok
    rw [hc] at h1
    obtain ⟨p, q, rfl⟩ : ∃ p q, qs = p :: q := by
      cases qs with
      | nil => simp [Rds] at h1
      | cons p q => exact ⟨p, q, rfl⟩
    simp only [Rds, List.cons.injEq] at h1
    obtain ⟨u, u', ⟨rfl, rfl⟩, k1, k2⟩ := h1
    have : q = [] := by
      cases q with
      | nil => rfl
      | cons a b => simp [Rds] at k2
    subst this
    refine ⟨n, p, k1, ?_⟩
    unfold fitA
    split
    · rename_i fs e; exact absurd e (e1 _)
    · rename_i m e' e; exact absurd e (e2 _ _)
    · exact h3
theorem args_open (K : Kids P (· < P.types.size)) (hz : ∀ t e, t < P.types.size → P.underlying t = some (.slice e) → 0 < P.cellsOf e) {r : Reach} {b0 : Nat} : ∀ {ts : List TypeId} {vs : List Value} {ds : List (DataW H)} {ps : List MemPlace}, (∀ t ∈ ts, t < P.types.size) →
    (∀ (j : Nat) t v, ts[j]? = some t → vs[j]? = some v → Value.okWide P w r b0 t v) → DataW.TrodAll enc P w base spare held ts vs ds ps → ∃ pvs, Rds w (Fr0 w) [] pvs vs ∧ fits P ts pvs
  | [], vs, ds, ps, _, _, h => by
    cases vs <;> cases ds <;> simp [DataW.TrodAll] at h
    exact ⟨[], by simp [Rds], trivial⟩
  | t :: ts, vs, ds, ps, hts, hok, h => by
    obtain ⟨v, vs', d, ds', p, q, rfl, rfl, rfl, h1, h2⟩ := trodAll_cons h
    obtain ⟨n, pv, k1, k2⟩ := arg_open K hz (hts t (by simp)) (hok 0 t v rfl rfl) h1
    obtain ⟨pvs, k3, k4⟩ := args_open K hz (fun t ht => hts t (by simp [ht])) (fun j t v hj hv => hok (j + 1) t v (by simpa using hj) (by simpa using hv)) h2
    exact ⟨pv :: pvs, by simp only [Rds]; exact ⟨v, vs', rfl, k1, k3⟩, ⟨n, k2⟩, k4⟩
end
/-- The old memory stands: every argument reads as it read. -/
theorem trodAll_keep {H : Type} {enc : TypeId × Value → H} {P : Program} {W W' : World} (K : Kids P (· < P.types.size)) (hz : ∀ t e, t < P.types.size → P.underlying t = some (.slice e) → 0 < P.cellsOf e) (hb : Below W.heap.size W W') : ∀ {ts : List TypeId} {vs : List Value} {ds : List (DataW H)} {ps : List MemPlace}, (∀ t ∈ ts, t < P.types.size) →
    DataW.TrodAll enc P W 0 (fun _ => true) true ts vs ds ps → DataW.TrodAll enc P W' 0 (fun b => decide (b < W.heap.size)) true ts vs ds ps
  | [], vs, ds, ps, _, h => by
    cases vs <;> cases ds <;> simp [DataW.TrodAll] at h ⊢
    exact h
  | t :: ts, vs, ds, ps, hts, h => by
    have hlt := DataW.TrodAll.lt h
    obtain ⟨v, vs', d, ds', p, q, rfl, rfl, rfl, ⟨n, h1⟩, h2⟩ := trodAll_cons h
    refine ⟨p, q, ⟨n, ?_⟩, trodAll_keep K hz hb (fun t ht => hts t (by simp [ht])) h2, rfl⟩
    have k1 := DataW.trod_respare (spare' := fun b => decide (b < W.heap.size)) K hz n _ _ _ (hts t (by simp)) h1 fun m hm => by
      have := hlt m (List.mem_append.2 (.inl hm))
      simpa using this
    exact DataW.trod_carry n _ _ _ k1 fun m hm => hb.same (hlt m (List.mem_append.2 (.inl hm)))
/-- The row's last step: the law says 'true', and the old memory stands. -/
theorem post_law {H : Type} {enc : TypeId × Value → H} {P : Program} {W W' : World} {f : Func} {s : ChangeSpec} {args : Array Value} {ds gs : List (DataW H)} {before : List MemPlace} {tb : TypeId} (K : Kids P (· < P.types.size)) (hz : ∀ t e, t < P.types.size → P.underlying t = some (.slice e) → 0 < P.cellsOf e)
    (hW : DataW.Whole enc P f.params.toList s.vars false W args.toList ds gs before) (hvars : s.vars = []) (hfn : s.fn H ds = { results := [.lit (.bool true)], args := ds }) (hres : f.resultTypes = #[tb]) (htb : P.underlying tb = some .bool) (hts : ∀ t ∈ f.params.toList, t < P.types.size)
    (hb : Below W.heap.size W W') : s.post enc P f false true false false W args (.bool true) W' := by
  have hW' := hW
  obtain ⟨p, q, h1, h2, rfl, h3, h4⟩ := hW
  have hgs : gs = [] ∧ q = [] := by
    rw [hvars] at h2
    cases gs <;> simp [DataW.TrodVars] at h2
    exact ⟨rfl, h2⟩
  obtain ⟨rfl, rfl⟩ := hgs
  refine ⟨ds, [], _, [], p, [], hW', ?_, ?_, ?_, hb.frame _, fun h => by cases h⟩
  · rw [List.append_nil, hfn, hres]
    exact trodAll_mk1 (shut_bool htb true)
  · rw [List.append_nil, hfn]
    exact trodAll_keep K hz hb hts h1
  · rw [List.append_nil, hfn, hvars]
    rfl
theorem trodAll_len {H : Type} {enc : TypeId × Value → H} {P : Program} {w : World} {base : Nat} {spare : Nat → Bool} {held : Bool} : ∀ {ts : List TypeId} {vs : List Value} {ds : List (DataW H)} {ps : List MemPlace}, DataW.TrodAll enc P w base spare held ts vs ds ps → ds.length = ts.length
  | [], vs, ds, ps, h => by cases vs <;> cases ds <;> simp [DataW.TrodAll] at h ⊢
  | t :: ts, vs, ds, ps, h => by
    obtain ⟨v, vs', d, ds', p, q, rfl, rfl, rfl, _, h2⟩ := trodAll_cons h
    simp [trodAll_len h2]
end Nun

/- From the evaluator to a law's contract; functions that are known otherwise. -/
namespace Nun
open Go Go.RowKit
variable {P : Program} {Γ : Glob} {cf : Callee}
/-- A call without boxes: what the evaluator gives, it returns; the old memory stands. -/
theorem calls_of (h : CallOk P Γ cf) {f : FuncId} {args : List PV} {v : Value} {os : Bool} {bx : Boxes} {oc : List Loc} (he : cf f args [] [] = some ([.flat v], os, bx, oc)) {w : World} {Fr : Nat → Nat} {vs : List Value} (hG : Γ.G w) (hr : Rds w Fr [] args vs) :
    Calls P f vs.toArray w fun e w' => e = .returned v ∧ Below w.heap.size w w' := by
  obtain ⟨_, h2⟩ := h f args [] [] _ _ _ _ he
  refine (h2 w Fr [] vs ⟨hG, hr, rel_empty w Fr, (fun L h => by cases h), fun g _ => may_empty⟩).mono ?_
  rintro e w' ⟨v0, Fr', β', rfl, hp⟩
  have := hp.rd
  simp only [tupOf, Rd] at this
  obtain ⟨rfl, _⟩ := this
  exact ⟨rfl, hp.rel.os, hp.rel.tape, hp.rel.output, hp.le.size, fun k hk => (hp.rel.old k hk may_empty).1⟩
/-- What is known of one function: flat values in, a flat value out, no boxes. -/
def FlatOk (P : Program) (Γ : Glob) (f : FuncId) (spec : List Value → Option Value) : Prop := entersB P f = true ∧ ∀ vs v, spec vs = some v → flatV v = true ∧ ∀ w, Γ.G w → Calls P f vs.toArray w fun e w' => e = .returned v ∧ Below w.heap.size w w'
def flats : List PV → Option (List Value)
  | [] => some []
  | .flat v :: r => (flats r).map (v :: ·)
  | _ => none
def flatLib (spec : FuncId → List Value → Option Value) : Callee := fun f args bx oc => match bx, oc with
  | [], [] => ((flats args).bind (spec f)).map fun v => ([.flat v], false, [], [])
  | _, _ => none
theorem flats_rds {w : World} {Fr : Nat → Nat} {β : List Nat} : ∀ {args : List PV} {us vs : List Value}, flats args = some us → Rds w Fr β args vs → vs = us
  | [], us, vs, h, k => by simp [flats] at h; simp [Rds] at k; rw [k, ← h]
  | p :: r, us, vs, h, k => by
    cases p <;> simp only [flats] at h <;> try (cases h; done)
    rename_i v
    obtain ⟨us', h1, rfl⟩ := Option.map_eq_some_iff.1 h
    simp only [Rds] at k
    obtain ⟨u, vs', rfl, k1, k2⟩ := k
    simp only [Rd] at k1
    rw [k1.1, flats_rds h1 k2]
theorem flatLib_ok {spec : FuncId → List Value → Option Value} (h : ∀ f vs v, spec f vs = some v → FlatOk P Γ f (spec f)) : CallOk P Γ (flatLib spec) := by
  intro f args bx oc vs' os bx' oc' he
  unfold flatLib at he
  split at he
  case h_2 => cases he
  obtain ⟨v, hv, he⟩ := Option.map_eq_some_iff.1 he
  cases he
  obtain ⟨us, hus, hsp⟩ := Option.bind_eq_some_iff.1 hv
  obtain ⟨h1, h2⟩ := h f us v hsp
  refine ⟨h1, fun w Fr β vs hp => ?_⟩
  obtain rfl := flats_rds hus hp.args
  obtain ⟨h3, h4⟩ := h2 _ v hsp
  refine (h4 w hp.g).mono ?_
  rintro e w' ⟨rfl, hb⟩
  obtain ⟨R, hl⟩ := hp.rel.grow hb (Fr' := Fr) fun _ _ => rfl
  exact ⟨v, Fr, β, rfl, by simp [tupOf, Rd, h3], R, hl, (fun L h => by cases h), fun h => by cases h⟩
/-- An evaluation that ends, and what holds then. -/
def Rn (x : Option (Out × St)) (Q : Out → St → Prop) : Prop := ∃ o s, x = some (o, s) ∧ Q o s
theorem rn_some {o : Out} {s : St} {Q : Out → St → Prop} : Rn (some (o, s)) Q ↔ Q o s := ⟨fun ⟨_, _, h, q⟩ => by cases h; exact q, fun h => ⟨o, s, rfl, h⟩⟩
theorem Rn.mono {x : Option (Out × St)} {Q R : Out → St → Prop} (h : Rn x Q) (k : ∀ o s, Q o s → R o s) : Rn x R := by
  obtain ⟨o, s, h1, h2⟩ := h
  exact ⟨o, s, h1, k o s h2⟩
theorem rn_bind {x : Option (Out × St)} {f : Out × St → Option (Out × St)} {Q : Out → St → Prop} (h : Rn x fun o s => Rn (f (o, s)) Q) : Rn (x.bind f) Q := by
  obtain ⟨o, s, rfl, h2⟩ := h
  exact h2
theorem rn_map {x : Option (Out × St)} {f : Out × St → Out × St} {Q : Out → St → Prop} (h : Rn x fun o s => Rn (some (f (o, s))) Q) : Rn (x.map f) Q := by
  obtain ⟨o, s, rfl, h2⟩ := h
  exact h2
/-- A loop: each round ends the loop or takes a step to a smaller measure. -/
theorem rn_loop {α : Type} {body : St → Option (Out × St)} {live : List Nat} {nb : Nat} (head : α → St) (I : α → Prop) (μ : α → Nat) (Q : α → Out → St → Prop)
    (h : ∀ a, I a → Rn (body (head a)) fun o s => match o with
      | .normal => ∃ b, s.only live nb = head b ∧ I b ∧ μ b < μ a ∧ ∀ o s, Q b o s → Q a o s
      | o => Q a o s) : ∀ (n : Nat) (a : α) (st : St), st.only live nb = head a → I a → μ a < n → Rn (evLoop body live nb n st) (Q a)
  | 0, a, st, _, _, hm => by omega
  | n + 1, a, st, hst, hi, hm => by
    obtain ⟨o, s, h1, h2⟩ := h a hi
    simp only [evLoop, hst, h1, Option.bind_some]
    cases o with
    | normal =>
      obtain ⟨b, k1, k0, k2, k3⟩ := h2
      exact (rn_loop head I μ Q h n b s k1 k0 (by omega)).mono k3
    | exit i => exact rn_some.2 h2
    | ret => exact rn_some.2 h2
def big : Nat := 2 ^ 64
/-- A function of the table. -/
theorem evW_run {code : FuncId → Option CFun} {lib : Callee} {f : FuncId} {k : CFun} (hk : code f = some k) {args : List PV} {bx : Boxes} {oc : List Loc} {r : Ans} (hl : args.length ≤ k.nt)
    (h : Rn (evC (evW code lib) big k.body { sl := initSl 0 args, ow := oc, al := [], bx }) fun o st => (∀ i, o ≠ .exit i) ∧ (k.res.mapM (resV st)).map (fun vs => (vs, ownRes k.res st.ow, trim bx.length vs st.bx, cellsUpto (trim bx.length vs st.bx).length st.ow)) = some r) :
    evW code lib f args bx oc = some r := by
  obtain ⟨o, s, h1, h2, h3⟩ := h
  refine evW_of (n := big) hk ?_
  unfold evB
  rw [if_pos hl, h1]
  cases o with
  | exit i => exact absurd rfl (h2 i)
  | normal => exact h3
  | ret => exact h3
end Nun
