/- head.Params' look for a name that came before: the closure, slices.IndexFunc, ContainsFunc. -/
import Derived.Test.YtdfflbpifpoogaaDoorHpw
import Derived.Test.YtdfflbpifpoogaaDoorHsp
set_option linter.unusedVariables false
set_option synthInstance.maxSize 4000
namespace Nun
open Go Go.RowKit
theorem PairAt.below {w w' : World} {B t : Nat} {a b : ByteArray} (h : PairAt w B t a b) (k : Below w.heap.size w w') : PairAt w' B t a b := (k.block B h.lt).trans h
theorem PairAt.below' {w w' : World} {B t C : Nat} {a b : ByteArray} (h : PairAt w B t a b) (k : Below C w w') (hC : B < C) : PairAt w' B t a b := (k.block B hC).trans h
theorem fld_mid (L R : List Fld) (x : Fld) : fldCells (L ++ x :: R) = fldCells L ++ ([.string ⟨x.1.toArray⟩, .string ⟨x.2.toArray⟩] ++ fldCells R) := by simp [fldCells]
theorem fldCells_at (F : List Fld) (i : Nat) (h : i < F.length) : (fldCells F)[i * 2]? = some (.string ⟨F[i].1.toArray⟩) ∧ (fldCells F)[i * 2 + 1]? = some (.string ⟨F[i].2.toArray⟩) := by
  have e : fldCells F = fldCells (F.take i) ++ ([.string ⟨F[i].1.toArray⟩, .string ⟨F[i].2.toArray⟩] ++ fldCells (F.drop (i + 1))) := by
    have e0 : fldCells F = fldCells (F.take i ++ F[i] :: F.drop (i + 1)) := by rw [← List.drop_eq_getElem_cons h, List.take_append_drop]
    exact e0.trans (fld_mid _ _ _)
  have hl : (fldCells (F.take i)).length = i * 2 := by rw [fldCells_len, List.length_take]; omega
  rw [e]
  constructor
  · rw [List.getElem?_append_right (by omega), hl, Nat.sub_self]; rfl
  · rw [List.getElem?_append_right (by omega), hl, show i * 2 + 1 - i * 2 = 1 by omega]; rfl
theorem any_take_succ (p : Fld → Bool) (F : List Fld) (i : Nat) (h : i < F.length) : (F.take (i + 1)).any p = ((F.take i).any p || p F[i]) := by
  rw [List.take_succ_eq_append_getElem h, List.any_append]; simp
theorem any_hit (p : Fld → Bool) (F : List Fld) (i : Nat) (h : i < F.length) (hp : p F[i] = true) : F.any p = true := List.any_eq_true.2 ⟨_, List.getElem_mem h, hp⟩
end Nun
namespace Go.Proofs.YtdfflbpifpoogaaDoor
open Go Go.RowKit Nun
theorem alike_of (s t : ByteArray) (b : Bool) (h : (foldL s.data.toList == foldL t.data.toList) = b) (w : World) (hs : s.size ≤ 1000000) (ht : t.size ≤ 1000000) : Calls Tryd.prog 36 #[.string s, .string t] w (Ret (.bool b) w) := h ▸ alike_any s t w hs ht
set_option maxHeartbeats 1000000 in
theorem closure_any (P : Nat) (k v a c : ByteArray) (b : Bool) (w : World) (hP : PairAt w P 43 k v) (hb : (foldL k.data.toList == foldL a.data.toList) = b) (hk : k.size ≤ 1000000) (ha : a.size ≤ 1000000) :
    Calls Tryd.prog 35 #[.agg #[.string a, .string c], .pointer (some ⟨P, 0, none⟩)] w (Ret (.bool b) w) := by
  have c0 := hP.cell0
  have hlt := hP.lt
  have HBB := Lib.hid hb; clear hb hP
  go_enter Tryd.func35, Tryd.ntmps35
  go_wp2_with (go_at_call 36; refine (alike_of k a b HBB.out _ hk ha).mono ?_; rintro e w1 ⟨rfl, hb1⟩)
  go_ret
  exact ⟨rfl, ((Below.refl _ _).alloc (Nat.le_refl _) _).trans (hb1.mono (by simp))⟩
set_option maxHeartbeats 2000000 in
set_option maxRecDepth 100000 in
theorem indexFunc_any (P B : Nat) (k v : ByteArray) (F : List Fld) (r : Value) (w : World) (hP : PairAt w P 43 k v) (hr : w.ownsRow B 43 2 r F.length (fldCells F)) (hk : k.size ≤ 1000000) (hF : F.length ≤ 1000000) (hFs : ∀ q ∈ F, q.1.length ≤ 1000000) :
    Calls Tryd.prog 49 #[r, .func (.func 35) #[] #[.pointer (some ⟨P, 0, none⟩)]] w fun e w' => ∃ n : Int, e = .returned (.int .i64 n) ∧ decide (0 ≤ n) = F.any (fun q => foldL k.data.toList == foldL q.1) ∧ Below w.heap.size w w' := by
  obtain ⟨a, cap, rfl, hform⟩ : ∃ a cap, r = .slice a F.length cap ∧ (F.length = 0 ∨ ∃ g, a = some ⟨g, 0, none⟩ ∧ g < w.heap.size ∧ F.length ≤ cap) := by
    rcases row_form hr with ⟨h, h0⟩ | ⟨g, cap, h, _, h2, h3⟩
    · exact ⟨none, 0, by rw [h, h0], .inl h0⟩
    · exact ⟨_, _, h, .inr ⟨g, rfl, h2, h3⟩⟩
  obtain ⟨n, hn⟩ : ∃ n, F.length = n := ⟨_, rfl⟩
  have HFO := Lib.hid hform; have HR := Lib.hid hr; have HPP := Lib.hid hP; have HFS := Lib.hid hFs; have HN := Lib.hid hn
  rw [hn] at hF ⊢
  clear hform hr hP hFs hn
  go_enter Tryd.func49, Tryd.ntmps49
  go_wp2
  go_loopw [4, 5, 8] (fun x y i wr => ∃ j : Nat, i = .int .i64 j ∧ j ≤ n ∧ Below w.heap.size w wr ∧ Hid ((F.take j).any (fun q => foldL k.data.toList == foldL q.1) = false)) (fun _ _ i _ => n - (intOf i).toNat)
  case atStart => exact ⟨0, rfl, Nat.zero_le _, Below.refl _ _, Lib.hid rfl⟩
  case round =>
    obtain ⟨j, rfl, hj, hbel, hno⟩ := hrel
    by_cases hlt : j < n
    · obtain ⟨g, rfl, hg, hcap⟩ : ∃ g, a = some ⟨g, 0, none⟩ ∧ g < w.heap.size ∧ n ≤ cap := by
        rcases HFO.out with h | ⟨g, h1, h2, h3⟩
        · have := HN.out; omega
        · exact ⟨g, h1, h2, by rw [HN.out] at h3; exact h3⟩
      have hjF : j < F.length := by rw [HN.out]; exact hlt
      obtain ⟨f0, f1⟩ := fldCells_at F j hjF
      obtain ⟨q, hq⟩ : ∃ q, F[j] = q := ⟨_, rfl⟩
      rw [hq] at f0 f1
      have hc0 := HR.out.cellAt (j * 2) (by rw [HN.out]; omega)
      have hc1 := HR.out.cellAt (j * 2 + 1) (by rw [HN.out]; omega)
      rw [f0] at hc0; rw [f1] at hc1
      have hc0r := (hbel.cell (p := ⟨g, j * 2, none⟩) hg).trans hc0
      have hc1r := (hbel.cell (p := ⟨g, j * 2 + 1, none⟩) hg).trans hc1
      have hji : (j : Int) < (n : Int) := by omega
      have hqs : (ByteArray.mk q.1.toArray).size ≤ 1000000 := HFS.out q (by rw [← hq]; exact List.getElem_mem _)
      have hPr := HPP.out.below hbel
      have HPr := Lib.hid hPr
      obtain ⟨A, hA⟩ : ∃ A : ByteArray, (⟨q.1.toArray⟩ : ByteArray) = A := ⟨_, rfl⟩
      obtain ⟨C, hC⟩ : ∃ C : ByteArray, (⟨q.2.toArray⟩ : ByteArray) = C := ⟨_, rfl⟩
      rw [hA] at hc0r hqs; rw [hC] at hc1r
      have hAd : A.data.toList = q.1 := by rw [← hA]
      rcases hh : (foldL k.data.toList == foldL q.1) with _ | _
      · have HH := Lib.hid (show (foldL k.data.toList == foldL A.data.toList) = false by rw [hAd]; exact hh)
        have HNO := Lib.hid (show (F.take (j + 1)).any (fun q => foldL k.data.toList == foldL q.1) = false by rw [any_take_succ _ _ _ hjF, hno.out, hq, hh]; rfl)
        clear f0 f1 hc0 hc1 hPr hA hC hAd hh hq
        go_wp2_with (go_at_call 35; refine (closure_any P k v A C false _ HPr.out HH.out hk hqs).mono ?_; rintro e w1 ⟨rfl, hb1⟩)
        go_roundw
        case rel => exact ⟨j + 1, by go_num, by omega, hbel.trans (hb1.mono hbel.size), HNO⟩
        case measure => simp [intOf]; omega
      · have HH := Lib.hid (show (foldL k.data.toList == foldL A.data.toList) = true by rw [hAd]; exact hh)
        have HY := Lib.hid (any_hit (fun q => foldL k.data.toList == foldL q.1) F j hjF (by rw [hq]; exact hh))
        clear f0 f1 hc0 hc1 hPr hA hC hAd hh hq
        go_wp2_with (go_at_call 35; refine (closure_any P k v A C true _ HPr.out HH.out hk hqs).mono ?_; rintro e w1 ⟨rfl, hb1⟩)
        go_ret
        exact ⟨_, rfl, by rw [HY.out]; simp, hbel.trans (hb1.mono hbel.size)⟩
    · obtain rfl : j = n := by omega
      have HNO := Lib.hid (show F.any (fun q => foldL k.data.toList == foldL q.1) = false by have := hno.out; rwa [← HN.out, List.take_length] at this)
      go_wp2
      go_ret
      exact ⟨_, rfl, by rw [HNO.out]; rfl, hbel⟩
set_option maxHeartbeats 1000000 in
theorem containsFunc_any (P B : Nat) (k v : ByteArray) (F : List Fld) (r : Value) (b : Bool) (w : World) (hP : PairAt w P 43 k v) (hr : w.ownsRow B 43 2 r F.length (fldCells F)) (hk : k.size ≤ 1000000) (hF : F.length ≤ 1000000) (hFs : ∀ q ∈ F, q.1.length ≤ 1000000) (hb : F.any (fun q => foldL k.data.toList == foldL q.1) = b) :
    Calls Tryd.prog 34 #[r, .func (.func 35) #[] #[.pointer (some ⟨P, 0, none⟩)]] w (Ret (.bool b) w) := by
  have H := indexFunc_any P B k v F r w hP hr hk hF hFs
  rw [hb] at H
  have HH := Lib.hid H; clear H hP hr hFs hb
  go_enter Tryd.func34, Tryd.ntmps34
  go_wp2_with (go_at_call 49; refine HH.out.mono ?_; rintro e w1 ⟨n, rfl, hn, hb1⟩)
  go_ret
  exact ⟨r1 (vb (by first | rfl | exact hn)), hb1⟩
end Go.Proofs.YtdfflbpifpoogaaDoor
