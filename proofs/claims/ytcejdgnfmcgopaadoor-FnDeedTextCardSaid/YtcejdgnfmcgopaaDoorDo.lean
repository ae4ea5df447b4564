/- What is proved: impl.deskDo and impl.DeskDo return the desk after a deed, in memory of its own. Conditions: those of each contract. -/
import Derived.Test.YtcejdgnfmcgopaaDoorPe
namespace Go.Proofs.YtcejdgnfmcgopaaDoor
open Go.RowKit
/-- spaces of before with one more, at most eight -/
def pushL (L : List (List (List Int))) (D : List (List Int)) : List (List (List Int)) := if 8 < (L ++ [D]).length then (L ++ [D]).drop 1 else L ++ [D]
def doB (D : List (List Int)) (L : List (List (List Int))) (kind : Int) (xs : List Int) : Bool := if kind = 4 ∧ xs.length = 0 then decide (0 < L.length) else madeB D kind xs && decide (madeV D kind xs ≠ D)
def doD (D : List (List Int)) (L : List (List (List Int))) (kind : Int) (xs : List Int) : List (List Int) := if kind = 4 ∧ xs.length = 0 then (if 0 < L.length then nth L (L.length - 1) else D) else if doB D L kind xs = true then madeV D kind xs else D
def doL (D : List (List Int)) (L : List (List (List Int))) (kind : Int) (xs : List Int) : List (List (List Int)) := if kind = 4 ∧ xs.length = 0 then L.take (L.length - 1) else if doB D L kind xs = true then pushL L D else L
theorem deskB_parts {D : List (List Int)} {L : List (List (List Int))} (h : deskB D L = true) : spB D = true ∧ L.length ≤ 8 ∧ ∀ i, i < L.length → spB (nth L i) = true := by
  unfold deskB at h
  rw [Bool.and_eq_true, Bool.and_eq_true] at h
  exact ⟨h.1, of_decide_eq_true h.2.1, (allR_all _ _).1 h.2.2⟩
theorem deskB_mk {D : List (List Int)} {L : List (List (List Int))} (h1 : spB D = true) (h2 : L.length ≤ 8) (h3 : ∀ i, i < L.length → spB (nth L i) = true) : deskB D L = true := by
  unfold deskB
  rw [h1, decide_eq_true h2, (allR_all _ _).2 h3]
  rfl
theorem nth_take {L : List (List (List Int))} {n i : Nat} (hi : i < n) : nth (L.take n) i = nth L i := by
  unfold nth
  simp [List.getD, hi]
theorem nth_drop (L : List (List (List Int))) (n i : Nat) : nth (L.drop n) i = nth L (n + i) := by
  unfold nth
  simp [List.getD, List.getElem?_drop]
theorem pushL_len {L : List (List (List Int))} (D : List (List Int)) (h : L.length ≤ 8) : (pushL L D).length ≤ 8 := by
  unfold pushL
  split
  · rw [List.length_drop, List.length_append, List.length_singleton]; omega
  · omega
theorem pushL_sp {L : List (List (List Int))} {D : List (List Int)} (hs : spB D = true) (h : ∀ i, i < L.length → spB (nth L i) = true) : ∀ i, i < (pushL L D).length → spB (nth (pushL L D) i) = true := by
  have key : ∀ i, i < (L ++ [D]).length → spB (nth (L ++ [D]) i) = true := fun i hi => by
    rw [List.length_append, List.length_singleton] at hi
    rw [nth_app]
    split
    · exact hs
    · exact h i (by omega)
  intro i hi
  unfold pushL at hi ⊢
  split
  · rename_i q
    rw [if_pos q, List.length_drop] at hi
    rw [nth_drop]
    exact key _ (by omega)
  · rename_i q
    rw [if_neg q] at hi
    exact key i hi
/-- the desk after a deed is a desk -/
theorem do_desk {D : List (List Int)} {L : List (List (List Int))} {kind : Int} {xs : List Int} (h : deskB D L = true) : deskB (doD D L kind xs) (doL D L kind xs) = true := by
  obtain ⟨h1, h2, h3⟩ := deskB_parts h
  unfold doD doL
  by_cases q : kind = 4 ∧ xs.length = 0
  · rw [if_pos q, if_pos q]
    refine deskB_mk ?_ (by rw [List.length_take]; omega) fun i hi => ?_
    · split
      · exact h3 _ (by omega)
      · exact h1
    · rw [List.length_take] at hi
      rw [nth_take (by omega)]
      exact h3 i (by omega)
  · rw [if_neg q, if_neg q]
    by_cases r : doB D L kind xs = true
    · rw [if_pos r, if_pos r]
      unfold doB at r
      rw [if_neg q, Bool.and_eq_true] at r
      exact deskB_mk (made_sp h1 r.1) (pushL_len _ h2) (pushL_sp h1 h3)
    · rw [if_neg r, if_neg r]
      exact h
theorem spB_sm {D : List (List Int)} (h : spB D = true) : SmM D := by
  obtain ⟨⟨n1, n6⟩, hsq, -⟩ := farB_parts (spB_far h)
  exact ⟨by omega, fun i hi => by rw [hsq i hi]; omega⟩
theorem deskB_sm {D : List (List Int)} {L : List (List (List Int))} (h : deskB D L = true) : SmD D L := by
  obtain ⟨h1, h2, h3⟩ := deskB_parts h
  exact ⟨spB_sm h1, by omega, fun i hi => spB_sm (h3 i hi)⟩
theorem MatS.take {w : World} {A : Option Addr} {c : Nat} {L : List (List (List Int))} (h : MatS w A c L) (n : Nat) (hn : n ≤ L.length) : MatS w A c (L.take n) := by
  obtain ⟨h1, h2, b, o, hA, hc⟩ := h
  have hl : (L.take n).length = n := by rw [List.length_take]; omega
  refine ⟨by omega, h2, b, o, fun h0 => hA (by omega), fun i hi => ?_⟩
  rw [hl] at hi
  rw [nth_take hi]
  exact hc i (by omega)
theorem MatS.drop1 {w : World} {b o c : Nat} {L : List (List (List Int))} (h : MatS w (some ⟨b, o, none⟩) c L) (h0 : 0 < L.length) : MatS w (some ⟨b, o + 1, none⟩) (c - 1) (L.drop 1) := by
  obtain ⟨h1, h2, b', o', hA, hc⟩ := h
  have e := hA h0
  injection e with e
  injection e with e1 e2
  subst e1; subst e2
  have hl : (L.drop 1).length = L.length - 1 := List.length_drop
  refine ⟨by omega, by omega, b, o + 1, fun _ => rfl, fun i hi => ?_⟩
  rw [hl] at hi
  rw [nth_drop]
  obtain ⟨Ar, cr, e, hM⟩ := hc (1 + i) (by omega)
  exact ⟨Ar, cr, by rw [show o + 1 + i = o + (1 + i) by omega]; exact e, hM⟩
/-- a desk and a Bool handed back, the desk of one's own -/
def DoR (w : World) (D : List (List Int)) (L : List (List (List Int))) (b : Bool) (e : Ending) (w' : World) : Prop := ∃ v, e = .returned (.tuple #[v, .bool b]) ∧ OwnDk w.heap.size w' v D L ∧ Ext w w'
theorem OwnDk.split {b : Nat} {w : World} {v : Value} {D : List (List Int)} {L : List (List (List Int))} (h : OwnDk b w v D L) :
    ∃ A c B d, v = .agg #[.slice A D.length c, .slice B L.length d] ∧ Mat w A c D ∧ MatS w B d L ∧ (D.length ≤ c ∧ c ≤ maxLen) ∧ (L.length ≤ d ∧ d ≤ maxLen) := by
  obtain ⟨A, c, B, d, e, h1, h2⟩ := h.desk
  exact ⟨A, c, B, d, e, h1, h2, ⟨h1.1, h1.2.1⟩, h2.1, h2.2.1⟩
theorem keepB_set2 {b m : Nat} {w : World} {x y : Value} (hb : w.heap[m]? = some (.cells #[x, y] 39 (0, 0))) (u v : Value) :
    w.cell? ⟨m, 0, none⟩ = some x ∧ w.frozen? ⟨m, 0, none⟩ = false ∧ (w.setCell ⟨m, 0, none⟩ u).cell? ⟨m, 1, none⟩ = some y ∧ (w.setCell ⟨m, 0, none⟩ u).frozen? ⟨m, 1, none⟩ = false ∧
      ((w.setCell ⟨m, 0, none⟩ u).setCell ⟨m, 1, none⟩ v).cell? ⟨m, 0, none⟩ = some u ∧ ((w.setCell ⟨m, 0, none⟩ u).setCell ⟨m, 1, none⟩ v).cell? ⟨m, 1, none⟩ = some v ∧
      KeepB b w ((w.setCell ⟨m, 0, none⟩ u).setCell ⟨m, 1, none⟩ v) := by
  have s0 := set_0 (u := u) hb
  have s1 := set_1 (u := v) s0
  exact ⟨by rw [cell_cells hb]; rfl, frozen_cells hb 0, by rw [cell_cells s0]; rfl, frozen_cells s0 1, by rw [cell_cells s1]; rfl, by rw [cell_cells s1]; rfl,
    (KeepB.set (p := ⟨m, 0, none⟩) hb (by decide) u).trans (KeepB.set (p := ⟨m, 1, none⟩) s0 (by decide) v)⟩
end Go.Proofs.YtcejdgnfmcgopaaDoor
